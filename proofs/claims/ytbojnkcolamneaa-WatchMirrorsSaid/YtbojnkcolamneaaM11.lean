/- What can be earned, and the posts that pay it. -/
import Derived.Test.YtbojnkcolamneaaM10
set_option linter.unusedVariables false
set_option linter.unusedSimpArgs false
namespace Go.Proofs.Ytbojnkcolamneaa
open Go Go.Pv Classical

/-- The shifts ahead of one that have ended when it begins. -/
def Sp (ys : List Shn) (n m : Nat) : Prop := m ≤ n ∧ (∀ i, i < m → (ys.getD i z4).1.2.1 ≤ (ys.getD n z4).1.1) ∧ ∀ i, m ≤ i → i < n → (ys.getD n z4).1.1 < (ys.getD i z4).1.2.1
def srt (ys : List Shn) : Prop := ys.Pairwise fun a b => a.1.2.1 ≤ b.1.2.1
theorem srt_at {ys : List Shn} (h : srt ys) {i j : Nat} (hj : j < ys.length) (hi : i ≤ j) : (ys.getD i z4).1.2.1 ≤ (ys.getD j z4).1.2.1 := by
  rcases Nat.lt_or_ge i j with g | g
  · exact (pw_getD z4 _ ys).1 h j hj i g
  · have : i = j := by omega
    subst this
    exact Int.le_refl _
theorem Sp_ex {ys : List Shn} (h : srt ys) {n : Nat} (hn : n < ys.length) : ∃ m, Sp ys n m := by
  have key : ∀ c, c ≤ n → ∃ m, m ≤ c ∧ (∀ i, i < m → (ys.getD i z4).1.2.1 ≤ (ys.getD n z4).1.1) ∧ ∀ i, m ≤ i → i < c → (ys.getD n z4).1.1 < (ys.getD i z4).1.2.1 := by
    intro c
    induction c with
    | zero => exact fun _ => ⟨0, Nat.le_refl _, fun i hi => by omega, fun i h1 h2 => by omega⟩
    | succ c ih =>
      intro hc
      obtain ⟨m, h1, h2, h3⟩ := ih (by omega)
      rcases ilt (ys.getD n z4).1.1 (ys.getD c z4).1.2.1 with g | g
      · refine ⟨m, by omega, h2, fun i h4 h5 => ?_⟩
        by_cases e : i = c
        · rw [e]; exact g
        · exact h3 i h4 (by omega)
      · refine ⟨c + 1, Nat.le_refl _, fun i hi => ?_, fun i h4 h5 => by omega⟩
        have := srt_at h (i := i) (j := c) (by omega) (by omega)
        omega
  obtain ⟨m, h1, h2, h3⟩ := key n (Nat.le_refl _)
  exact ⟨m, h1, h2, h3⟩
theorem mem_take_getD {ys : List Shn} {m : Nat} {a : Shn} (h : a ∈ ys.take m) : ∃ i, i < m ∧ i < ys.length ∧ a = ys.getD i z4 := by
  obtain ⟨i, hi, e⟩ := List.getElem_of_mem h
  rw [List.length_take] at hi
  refine ⟨i, by omega, by omega, ?_⟩
  rw [← e]
  simp [List.getD, (show i < ys.length by omega)]

def payz : List Shn → Int
  | [] => 0
  | y :: z => y.1.2.2 + payz z
theorem payz_append : ∀ x y, payz (x ++ y) = payz x + payz y
  | [], y => by simp [payz]
  | a :: x, y => by rw [List.cons_append, payz, payz, payz_append x y]; omega
def Al (z : List Shn) : Prop := z.Pairwise fun a b => a.1.2.1 ≤ b.1.1
structure Best (ys : List Shn) (n : Nat) (v : Int) : Prop where
  up : ∀ z : List Shn, z.Sublist (ys.take n) → Al z → payz z ≤ v
  ex : ∃ z : List Shn, z.Sublist (ys.take n) ∧ Al z ∧ payz z = v
theorem sub_one {α : Type} {a : α} {z : List α} (h : z.Sublist [a]) : z = [] ∨ z = [a] := by
  cases h with
  | cons _ h => exact .inl (List.sublist_nil.1 h)
  | cons_cons _ h => right; rw [List.sublist_nil.1 h]
theorem best_succ {ys : List Shn} {n m : Nat} {u v : Int} (hn : n < ys.length) (hs : Sp ys n m) (h1 : Best ys n v) (h2 : Best ys m u) : Best ys (n + 1) (max v (u + (ys.getD n z4).1.2.2)) := by
  have htk := take_getD (w := ys) z4 hn
  have htm : ys.take n = ys.take m ++ (ys.take n).drop m := by
    have := (List.take_append_drop m (ys.take n)).symm
    rwa [List.take_take, Nat.min_eq_left hs.1] at this
  constructor
  · intro z hz ha
    rw [htk] at hz
    obtain ⟨z1, z2, rfl, g1, g2⟩ := List.sublist_append_iff.1 hz
    rcases sub_one g2 with rfl | rfl
    · rw [List.append_nil] at ha ⊢
      have := h1.up _ g1 ha
      omega
    · obtain ⟨a1, _, a3⟩ := List.pairwise_append.1 ha
      rw [htm] at g1
      obtain ⟨w1, w2, rfl, g3, g4⟩ := List.sublist_append_iff.1 g1
      have : w2 = [] := by
        cases w2 with
        | nil => rfl
        | cons c w2 =>
          have hc := g4.subset (show c ∈ c :: w2 by simp)
          have h6 := a3 c (by simp) (ys.getD n z4) (List.mem_singleton.2 rfl)
          obtain ⟨i, hi, e⟩ := List.getElem_of_mem hc
          simp only [List.length_drop, List.length_take] at hi
          have h7 := hs.2.2 (m + i) (by omega) (by omega)
          have h8 : c = ys.getD (m + i) z4 := by
            rw [← e]
            simp [List.getD, (show m + i < ys.length by omega)]
          rw [h8] at h6
          omega
      subst this
      rw [List.append_nil] at a1 ⊢
      have := h2.up _ g3 a1
      rw [payz_append]
      simp only [payz]
      omega
  · by_cases g : u + (ys.getD n z4).1.2.2 ≤ v
    · obtain ⟨z, g1, g2, g3⟩ := h1.ex
      exact ⟨z, by rw [htk]; exact g1.trans (List.sublist_append_left _ _), g2, by omega⟩
    · obtain ⟨z, g1, g2, g3⟩ := h2.ex
      refine ⟨z ++ [ys.getD n z4], ?_, ?_, ?_⟩
      · rw [htk, htm]
        exact ((g1.trans (List.sublist_append_left _ _)).append (List.Sublist.refl _))
      · refine List.pairwise_append.2 ⟨g2, by simp, fun a ha b hb => ?_⟩
        simp only [List.mem_singleton] at hb
        obtain ⟨i, hi, _, rfl⟩ := mem_take_getD (g1.subset ha)
        rw [hb]
        exact hs.2.1 i hi
      · rw [payz_append]
        simp only [payz]
        omega
theorem best_all {ys : List Shn} {E : Nat → Int} (h0 : E 0 = 0) (hE : ∀ n, n < ys.length → ∃ m, Sp ys n m ∧ E (n + 1) = max (E n) (E m + (ys.getD n z4).1.2.2)) (n : Nat) : n ≤ ys.length → Best ys n (E n) := by
  induction n using Nat.strongRecOn with
  | ind n ih =>
    intro hn
    cases n with
    | zero =>
      refine ⟨fun z hz _ => ?_, [], by simp, .nil, h0.symm⟩
      rw [List.take_zero, List.sublist_nil] at hz
      rw [hz, h0]
      exact Int.le_refl _
    | succ n =>
      obtain ⟨m, h1, h2⟩ := hE n hn
      rw [h2]
      exact best_succ hn h1 (ih n (by omega) (by omega)) (ih m (by have := h1.1; omega) (by have := h1.1; omega))

/-! ### Sets by numbers, and by the list -/
theorem nodup_perm : ∀ {a b : List Int}, a.Nodup → b.Nodup → (∀ x, x ∈ a ↔ x ∈ b) → a.Perm b
  | [], b, _, _, h => by
    cases b with
    | nil => exact .refl _
    | cons c b => exact absurd ((h c).2 (by simp)) (by simp)
  | x :: a, b, ha, hb, h => by
    obtain ⟨h1, h2⟩ := List.nodup_cons.1 ha
    have hx : x ∈ b := (h x).1 (by simp)
    refine .trans (.cons x (nodup_perm h2 (hb.erase x) fun y => ?_)) (List.perm_cons_erase hx).symm
    constructor
    · intro hy
      have hne : y ≠ x := fun e => h1 (e ▸ hy)
      exact (List.mem_erase_of_ne hne).2 ((h y).1 (by simp [hy]))
    · intro hy
      have hne : y ≠ x := fun e => by
        subst e
        exact (List.Nodup.not_mem_erase hb) hy
      have := (h y).2 ((List.mem_erase_of_ne hne).1 hy)
      rcases List.mem_cons.1 this with e | e
      · exact absurd e hne
      · exact e
theorem payz_map {l : List Shf} : ∀ z : List Shn, (∀ y ∈ z, y.1 = sh l y.2) → payz z = pay l (z.map fun y => y.2)
  | [], _ => rfl
  | y :: z, h => by rw [payz, List.map_cons, pay, payz_map z fun w hw => h w (by simp [hw]), h y (by simp)]
theorem byE_sh {l : List Shf} {y : Shn} (h : y ∈ byE l) : y.1 = sh l y.2 ∧ 0 ≤ y.2 ∧ y.2 < (l.length : Int) := by
  obtain ⟨i, hi, rfl⟩ := mem_byE.1 h
  exact ⟨rfl, by simp, by simp; omega⟩
theorem fromZ {l : List Shf} (hV : V l) {z : List Shn} (hz : z.Sublist (byE l)) (ha : Al z) {w : List Int} (hw : w.Perm (z.map fun y => y.2)) : isAl l (isort leI w) ∧ pay l (isort leI w) = payz z := by
  have hp : (isort leI w).Perm (z.map fun y => y.2) := (isort_perm _).trans hw
  have hnd' : (isort leI w).Nodup := hp.nodup_iff.2 ((hz.map _).nodup (byE_nodup l))
  have hmem : ∀ a ∈ isort leI w, ∃ y ∈ z, y.2 = a := fun a ha => List.mem_map.1 (hp.mem_iff.1 ha)
  refine ⟨⟨⟨?_, ?_⟩, ?_⟩, ?_⟩
  · have h1 := leI_sorted w
    have h2 : (isort leI w).Pairwise fun a b => a ≠ b := List.nodup_iff_pairwise_ne.1 hnd'
    exact (List.pairwise_and_iff.2 ⟨h1, h2⟩).imp fun h => by omega
  · intro a ha
    obtain ⟨y, h1, rfl⟩ := hmem a ha
    have := byE_sh (hz.subset h1)
    omega
  · have h3 : (z.map fun y => y.2).Pairwise fun a b => ¬ ov (sh l b) (sh l a) := by
      rw [List.pairwise_map]
      refine List.Pairwise.imp_of_mem (fun {a b} ha hb hab => ?_) ha
      rw [← (byE_sh (hz.subset ha)).1, ← (byE_sh (hz.subset hb)).1]
      unfold ov
      omega
    exact (hp.pairwise_iff (fun {a b} h g => h (ov_comm.1 g))).2 h3
  · rw [pay_perm l hp, payz_map z fun y hy => (byE_sh (hz.subset hy)).1]
theorem alo_ne {l : List Shf} : ∀ {x : List Int}, alo l x → ∀ a ∈ x, ∀ b ∈ x, a ≠ b → ¬ ov (sh l a) (sh l b)
  | [], _, a, ha, _, _, _ => by cases ha
  | c :: x, h, a, ha, b, hb, hab => by
    obtain ⟨h1, h2⟩ := List.pairwise_cons.1 h
    rcases List.mem_cons.1 ha with e | ha'
    · rcases List.mem_cons.1 hb with e' | hb'
      · exact absurd (e.trans e'.symm) hab
      · rw [e]
        exact fun g => h1 b hb' (ov_comm.1 g)
    · rcases List.mem_cons.1 hb with e' | hb'
      · rw [e']
        exact h1 a ha'
      · exact alo_ne h2 a ha' b hb' hab
theorem toZ {l : List Shf} (hV : V l) {x : List Int} (hx : isAl l x) : ∃ z : List Shn, z.Sublist (byE l) ∧ Al z ∧ payz z = pay l x := by
  let z := (byE l).filter fun y => decide (y.2 ∈ x)
  have hz : z.Sublist (byE l) := List.filter_sublist
  have hzm : ∀ y ∈ z, y.2 ∈ x := fun y hy => by simpa using (List.mem_filter.1 hy).2
  have hp : (z.map fun y => y.2).Perm x := by
    refine nodup_perm ((hz.map _).nodup (byE_nodup l)) (List.nodup_iff_pairwise_ne.2 (hx.1.1.imp fun h => by omega)) fun a => ?_
    constructor
    · intro ha
      obtain ⟨y, hy, rfl⟩ := List.mem_map.1 ha
      exact hzm y hy
    · intro ha
      have := isAl_in hx a ha
      refine List.mem_map.2 ⟨(l.getD a.toNat z3, ((a.toNat : Nat) : Int)), List.mem_filter.2 ⟨mem_byE.2 ⟨a.toNat, by omega, rfl⟩, ?_⟩, by show ((a.toNat : Nat) : Int) = a; omega⟩
      have e : ((a.toNat : Nat) : Int) = a := by omega
      simp [e, ha]
  refine ⟨z, hz, ?_, ?_⟩
  · have h1 : z.Pairwise fun a b => a.1.2.1 ≤ b.1.2.1 := (byE_sorted l).sublist hz
    have h2 : z.Pairwise fun a b => a.2 ≠ b.2 := by
      have := List.nodup_iff_pairwise_ne.1 ((hz.map (fun y : Shn => y.2)).nodup (byE_nodup l))
      rwa [List.pairwise_map] at this
    refine List.Pairwise.imp_of_mem (fun {a b} ha hb hab => ?_) (List.pairwise_and_iff.2 ⟨h1, h2⟩)
    have g := alo_ne hx.2 _ (hzm a ha) _ (hzm b hb) hab.2
    rw [← (byE_sh (hz.subset ha)).1, ← (byE_sh (hz.subset hb)).1] at g
    have h3 := byE_ok hV.2 a (hz.subset ha)
    have h4 := hab.1
    unfold ov okS at *
    omega
  · rw [payz_map z fun y hy => (byE_sh (hz.subset hy)).1, pay_perm l hp]

/-! ### The table of what can be earned -/
theorem f71 (K : Nat) (hK : 12 < K) {ys : List Shn} (hs : srt ys) (h12 : ys.length ≤ 12) {n : Nat} (hn : n < ys.length) {mo : List Int} (hm : mo.length = n + 1) : ∃ m : Nat, implf71 K (n : Int) ys mo = some ((m : Int), mo) ∧ Sp ys n m := by
  have key : ∀ k c : Nat, c < k → c ≤ n → (∀ i, c ≤ i → i < n → (ys.getD n z4).1.1 < (ys.getD i z4).1.2.1) → ∃ m : Nat, impll71_0 K k (c : Int) ys mo = some ((m : Int), mo, ()) ∧ Sp ys n m := by
    intro k
    induction k with
    | zero => intro c h; omega
    | succ k ih =>
      intro c hc hcn hI
      rw [impll71_0, implb71_0]
      simp only [cdec]
      cases c with
      | zero =>
        rw [if_neg (by omega)]
        exact ⟨0, rfl, Nat.zero_le _, fun i hi => by omega, hI⟩
      | succ c =>
        have e1 : IntKind.i64.wrap (((c + 1 : Nat) : Int) - 1) = (c : Int) := by rw [wrapI (by omega) (by omega)]; omega
        have e2 : IntKind.i64.wrap ((mo.length : Int) - 1) = (n : Int) := by rw [hm, wrapI (by omega) (by omega)]; omega
        have e3 : ys.getD (c : Int).toNat (((0 : Int), (0 : Int), (0 : Int)), (0 : Int)) = ys.getD c z4 := rfl
        have e4 : ys.getD (n : Int).toNat (((0 : Int), (0 : Int), (0 : Int)), (0 : Int)) = ys.getD n z4 := rfl
        simp only [e1, e2, e3, e4]
        rw [if_pos (by omega), if_pos (by omega), if_pos (by omega)]
        rcases ilt (ys.getD n z4).1.1 (ys.getD c z4).1.2.1 with g | g
        · rw [if_pos g]
          refine ih c (by omega) (by omega) fun i h1 h2 => ?_
          by_cases e : i = c
          · rw [e]; exact g
          · exact hI i (by omega) h2
        · rw [if_neg (by omega)]
          refine ⟨c + 1, rfl, hcn, fun i hi => ?_, hI⟩
          have := srt_at hs (i := i) (j := c) (by omega) (by omega)
          omega
  obtain ⟨m, h1, h2⟩ := key K n (by omega) (Nat.le_refl _) (fun i h1 h2 => by omega)
  refine ⟨m, ?_, h2⟩
  unfold implf71
  rw [h1, obS]

/-- The table is right. -/
structure Tab (ys : List Shn) (j : Nat) (mo fr : List Int) : Prop where
  lm : mo.length = j + 1
  lf : fr.length = j
  zero : mo.getD 0 0 = 0
  step : ∀ n, n < j → ∃ m : Nat, fr.getD n 0 = (m : Int) ∧ Sp ys n m ∧ mo.getD (n + 1) 0 = max (mo.getD n 0) (mo.getD m 0 + (ys.getD n z4).1.2.2)
  bd : ∀ n, n ≤ j → 0 ≤ mo.getD n 0 ∧ mo.getD n 0 ≤ 99 * n
theorem l24_0 (K : Nat) (hK : 12 < K) {ys : List Shn} (hs : srt ys) (h12 : ys.length ≤ 12) (hok : ∀ y ∈ ys, okS y.1) : ∃ mo fr : List Int, impll24_0 K K ys [0] [] ys (ys.length : Int) 0 = some (mo, fr, (ys.length : Int), ()) ∧ Tab ys ys.length mo fr := by
  obtain ⟨⟨mo, fr⟩, h1, h2⟩ := invTo (fun k j (t : List Int × List Int) => impll24_0 K k ys t.1 t.2 ys (ys.length : Int) (j : Int)) ys.length (fun j t => Tab ys j t.1 t.2) (fun t => (t.1, t.2, (ys.length : Int), ()))
    (fun k j t hj hI => by
      show ∃ t' : List Int × List Int, impll24_0 K (k + 1) ys t.1 t.2 ys _ j = impll24_0 K k ys t'.1 t'.2 ys _ ((j + 1 : Nat) : Int) ∧ _
      rw [impll24_0, implb24_0]
      obtain ⟨m, g1, g2⟩ := f71 K hK hs h12 hj hI.lm
      have hlm := hI.lm
      have hlf := hI.lf
      have hmj := g2.1
      have o := hok _ (getD_mem z4 hj)
      unfold okS at o
      have b1 := hI.bd m hmj
      have b2 := hI.bd j (Nat.le_refl _)
      have e : ys.getD (j : Int).toNat (((0 : Int), (0 : Int), (0 : Int)), (0 : Int)) = ys.getD j z4 := rfl
      have e1 : (List.replicate 1 (0 : Int)).set 0 (m : Int) = [(m : Int)] := rfl
      have e2 : (t.2 ++ [(m : Int)]).getD (j : Int).toNat 0 = (m : Int) := by
        show (t.2 ++ [(m : Int)]).getD j 0 = _
        rw [getD_snoc, if_pos hlf.symm]
      have e3 : t.1.getD (j : Int).toNat 0 = t.1.getD j 0 := rfl
      have e4 : t.1.getD (m : Int).toNat 0 = t.1.getD m 0 := rfl
      have e5 : ([(m : Int)]).length = 1 := rfl
      have e6 : (t.2 ++ [(m : Int)]).length = j + 1 := by simp [hlf]
      have e7 : ∀ v : Int, (List.replicate 1 (0 : Int)).set 0 v = [v] := fun _ => rfl
      have e8 : ∀ v : Int, ([v]).length = 1 := fun _ => rfl
      have ew : IntKind.i64.wrap (t.1.getD m 0 + (ys.getD j z4).1.2.2) = t.1.getD m 0 + (ys.getD j z4).1.2.2 := wrapI (by omega) (by omega)
      simp only [cdec, e, g1, obS, e7, e8, e2, e3, e4, e6, ew]
      rw [if_pos (by omega), if_pos (by omega), if_pos (by omega), if_pos (by omega), if_pos (by omega), if_pos (by omega), if_pos (by omega), wrapS (by omega)]
      refine ⟨(t.1 ++ [max (t.1.getD j 0) (t.1.getD m 0 + (ys.getD j z4).1.2.2)], t.2 ++ [(m : Int)]), rfl, ?_⟩
      have a1 : ∀ i, i ≤ j → (t.1 ++ [max (t.1.getD j 0) (t.1.getD m 0 + (ys.getD j z4).1.2.2)]).getD i 0 = t.1.getD i 0 := fun i hi => by rw [getD_snoc, if_neg (by omega)]
      have a2 : (t.1 ++ [max (t.1.getD j 0) (t.1.getD m 0 + (ys.getD j z4).1.2.2)]).getD (j + 1) 0 = max (t.1.getD j 0) (t.1.getD m 0 + (ys.getD j z4).1.2.2) := by rw [getD_snoc, if_pos hlm.symm]
      refine ⟨by simp [hlm], by simp [hlf], by rw [a1 0 (Nat.zero_le _)]; exact hI.zero, fun n hn => ?_, fun n hn => ?_⟩
      · by_cases en : n = j
        · subst en
          refine ⟨m, by rw [getD_snoc, if_pos hlf.symm], g2, ?_⟩
          rw [a2, a1 n (Nat.le_refl _), a1 m hmj]
        · obtain ⟨m', q1, q2, q3⟩ := hI.step n (by omega)
          have := q2.1
          refine ⟨m', by rw [getD_snoc, if_neg (by omega)]; exact q1, q2, ?_⟩
          rw [a1 (n + 1) (by omega), a1 n (by omega), a1 m' (by omega)]
          exact q3
      · by_cases en : n = j + 1
        · subst en
          rw [a2]
          omega
        · rw [a1 n (by omega)]
          exact hI.bd n (by omega))
    (fun k t _ => by
      show impll24_0 K (k + 1) ys t.1 t.2 ys _ ys.length = _
      rw [impll24_0, implb24_0]
      simp only [cdec]
      rw [if_neg (by omega)]) K 0 ([0], []) (by omega) (Nat.zero_le _)
    ⟨rfl, rfl, rfl, fun n hn => by omega, fun n hn => (by
      have e : n = 0 := by omega
      rw [e]
      simp)⟩
  exact ⟨mo, fr, h1, h2⟩
theorem l24_2 (K : Nat) {ys : List Shn} (h12 : ys.length ≤ 12) {mo fr : List Int} (hT : Tab ys ys.length mo fr) : ∀ (k n : Nat) (acc : List Int) (z : List Shn), n < k → n ≤ ys.length → acc.Perm (z.map fun y => y.2) → acc.length + n ≤ 12 → z.Sublist (ys.drop n) → Al z → (∀ w ∈ z, ∀ i, i < n → (ys.getD i z4).1.2.1 ≤ w.1.1) →
    ∃ (acc' : List Int) (z' : List Shn), impll24_2 K k ys mo fr acc (n : Int) = some (mo, acc', 0, ()) ∧ acc'.length ≤ 12 ∧ acc'.Perm (z'.map fun y => y.2) ∧ z'.Sublist ys ∧ Al z' ∧ payz z' = payz z + mo.getD n 0
  | 0, n, _, _, h, _, _, _, _, _, _ => by omega
  | k + 1, n, acc, z, hk, hn, hp, hl, hz, ha, hb => by
    rw [impll24_2, implb24_2]
    simp only [cdec]
    cases n with
    | zero =>
      rw [if_neg (by omega)]
      exact ⟨acc, z, rfl, by omega, hp, hz, ha, by rw [hT.zero]; omega⟩
    | succ n =>
      have hlm := hT.lm
      have hlf := hT.lf
      obtain ⟨m, q1, q2, q3⟩ := hT.step n hn
      have hmn := q2.1
      have e1 : IntKind.i64.wrap (((n + 1 : Nat) : Int) - 1) = (n : Int) := by rw [wrapI (by omega) (by omega)]; omega
      have e2 : mo.getD ((n + 1 : Nat) : Int).toNat 0 = mo.getD (n + 1) 0 := rfl
      have e3 : mo.getD (n : Int).toNat 0 = mo.getD n 0 := rfl
      have e4 : ys.getD (n : Int).toNat (((0 : Int), (0 : Int), (0 : Int)), (0 : Int)) = ys.getD n z4 := rfl
      have e5 : fr.getD (n : Int).toNat 0 = (m : Int) := q1
      have e7 : ∀ v : Int, (List.replicate 1 (0 : Int)).set 0 v = [v] := fun _ => rfl
      have e8 : ∀ v : Int, ([v]).length = 1 := fun _ => rfl
      simp only [e1, e2, e3, e4, e5, e7, e8, ibeq, cdec]
      have hdn : ys.drop n = ys.getD n z4 :: ys.drop (n + 1) := drop_getD z4 hn
      rw [if_pos (by omega), if_pos (by omega), if_pos (by omega)]
      by_cases g : mo.getD (n + 1) 0 = mo.getD n 0
      · rw [if_pos g]
        obtain ⟨acc', z', r1, r2, r3, r4, r5, r6⟩ := l24_2 K h12 hT k n acc z (by omega) (by omega) hp (by omega) (by rw [hdn]; exact hz.trans (List.sublist_cons_self _ _)) ha fun w hw i hi => hb w hw i (by omega)
        exact ⟨acc', z', r1, r2, r3, r4, r5, by rw [r6, g]⟩
      · rw [if_neg g, if_pos (by omega), if_pos (by omega), if_pos (by omega)]
        obtain ⟨acc', z', r1, r2, r3, r4, r5, r6⟩ := l24_2 K h12 hT k m (acc ++ [(ys.getD n z4).2]) (ys.getD n z4 :: z) (by omega) (by omega)
          (by rw [List.map_cons]; exact (List.perm_append_singleton _ _).trans (.cons _ hp)) (by simp; omega)
          (by
            refine List.Sublist.trans ?_ (List.drop_sublist_drop_left ys hmn)
            rw [hdn]
            exact hz.cons_cons _)
          (List.pairwise_cons.2 ⟨fun w hw => hb w hw n (by omega), ha⟩)
          (fun w hw i hi => by
            rcases List.mem_cons.1 hw with rfl | hw
            · exact q2.2.1 i hi
            · exact hb w hw i (by omega))
        refine ⟨acc', z', r1, r2, r3, r4, r5, ?_⟩
        rw [r6, payz]
        omega
/-- What can be earned: a set that is alone, and its pay. -/
theorem f24 (K : Nat) (hK : 13 < K) (l : List Shf) (hl : ∀ s ∈ l, inS s) : (er l ≠ 0 ∧ implf24 K l = some ([], 0, er l)) ∨ (er l = 0 ∧ ∃ x v, implf24 K l = some (x, v, 0) ∧ isAl l x ∧ pay l x = v ∧ ∀ y, isAl l y → pay l y ≤ v) := by
  unfold implf24
  rw [f31 K (by omega) l hl]
  simp only [obS, ibne, cdec, cnot]
  by_cases h : er l = 0
  · right
    refine ⟨h, ?_⟩
    have hV := er_ok.1 h
    have h12 := hV.1
    have hb := byE_length l
    simp only [h, if_true]
    rw [f67b K l h12 (by omega), obS]
    obtain ⟨mo, fr, h1, hT⟩ := l24_0 K (by omega) (byE_sorted l) (by omega) (byE_ok hV.2)
    have h1 : impll24_0 K K (byE l) ((List.replicate 1 (0 : Int)).set 0 0) [] (byE l) ((byE l).length : Int) 0 = _ := h1
    rw [h1, obS]
    simp only []
    obtain ⟨acc, z, r1, r2, r3, r4, r5, r6⟩ := l24_2 K (by omega) hT K (byE l).length [] [] (by omega) (Nat.le_refl _) (by simp) (by simp; omega) (by simp) .nil (by simp)
    rw [r1, obS]
    simp only []
    unfold implf63
    rw [if_pos (by omega), obS]
    have hlm := hT.lm
    rw [if_pos (by omega)]
    obtain ⟨g1, g2⟩ := fromZ hV r4 r5 r3
    have hB := best_all (ys := byE l) (E := fun n => mo.getD n 0) hT.zero (fun n hn => by
      obtain ⟨m, q1, q2, q3⟩ := hT.step n hn
      exact ⟨m, q2, q3⟩) (byE l).length (Nat.le_refl _)
    refine ⟨_, _, rfl, g1, ?_, fun y hy => ?_⟩
    · rw [g2, r6]
      show 0 + mo.getD (byE l).length 0 = mo.getD (byE l).length 0
      omega
    · obtain ⟨w, w1, w2, w3⟩ := toZ hV hy
      have := hB.up w (by rw [List.take_length]; exact w1) w2
      rw [← w3]
      exact this
  · left
    exact ⟨h, by simp only [h, if_false]⟩
end Go.Proofs.Ytbojnkcolamneaa
