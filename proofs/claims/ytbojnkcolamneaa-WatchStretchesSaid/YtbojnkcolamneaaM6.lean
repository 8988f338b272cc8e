/- The roster that is returned. -/
import Derived.Test.YtbojnkcolamneaaM5
set_option linter.unusedVariables false
set_option linter.unusedSimpArgs false
namespace Go.Proofs.Ytbojnkcolamneaa
open Go Go.Pv Classical

/-- A loop that keeps something. -/
theorem invTo {τ ρ : Type} (l : Nat → Nat → τ → Option ρ) (n : Nat) (I : Nat → τ → Prop) (fin : τ → ρ) (hs : ∀ k j t, j < n → I j t → ∃ t', l (k + 1) j t = l k (j + 1) t' ∧ I (j + 1) t')
    (he : ∀ k t, I n t → l (k + 1) n t = some (fin t)) : ∀ k j t, n - j < k → j ≤ n → I j t → ∃ t', l k j t = some (fin t') ∧ I n t'
  | 0, j, t, hk, _, _ => by omega
  | k + 1, j, t, hk, hj, hI => by
    by_cases h : j < n
    · obtain ⟨t', h1, h2⟩ := hs k j t h hI
      rw [h1]
      exact invTo l n I fin hs he k (j + 1) t' (by omega) (by omega) h2
    · have : j = n := by omega
      subst this
      exact ⟨t, he k t hI, hI⟩

theorem f78d (K : Nat) (free : List Int) (hf : free.length ≤ 12) (hK : 12 < K) (y : Shn) :
    (∃ k : Nat, k < free.length ∧ free.getD k 0 ≤ y.1.1 ∧ implf78d K free (y, ()) = some (k : Int)) ∨ ((∀ k, k < free.length → y.1.1 < free.getD k 0) ∧ implf78d K free (y, ()) = some (-1)) := by
  unfold implf78d
  have := uptoFind (fun k (j : Nat) => impll78d_0 K k free (y, ()) (free.length : Int) (j : Int)) (fun j => j) free.length (fun j => y.1.1 < free.getD j 0) (.inl ((free.length : Int), ())) (fun j => .inr (j : Int))
    (fun k j hj hp => by
      show impll78d_0 K (k + 1) free (y, ()) _ j = impll78d_0 K k free (y, ()) _ ((j + 1 : Nat) : Int)
      rw [impll78d_0, implb78d_0]
      have e : free.getD (j : Int).toNat 0 = free.getD j 0 := rfl
      simp only [cdec, e]
      rw [if_pos (by omega), if_pos (by omega), if_neg (by omega), wrapS (by omega)])
    (fun k j hj hp => by
      show impll78d_0 K (k + 1) free (y, ()) _ j = _
      rw [impll78d_0, implb78d_0]
      have e : free.getD (j : Int).toNat 0 = free.getD j 0 := rfl
      simp only [cdec, e]
      rw [if_pos (by omega), if_pos (by omega), if_pos (by omega)])
    (fun k => by
      show impll78d_0 K (k + 1) free (y, ()) _ free.length = _
      rw [impll78d_0, implb78d_0]
      simp only [cdec]
      rw [if_neg (by omega)]) K 0 (by omega) (Nat.zero_le _)
  simp only [Int.natCast_zero] at this
  rcases this with ⟨i, h1, h2, h3, h4, h5⟩ | ⟨h1, h2⟩
  · refine .inl ⟨i, h2, by omega, ?_⟩
    show ob (impll78d_0 K K free (y, ()) (free.length : Int) 0) _ = _
    rw [h5]
    rfl
  · refine .inr ⟨fun k hk => h1 k (Nat.zero_le _) hk, ?_⟩
    show ob (impll78d_0 K K free (y, ()) (free.length : Int) 0) _ = _
    rw [h2]
    rfl

theorem getD_set' {α : Type} (l : List α) (i j : Nat) (x d : α) (hi : i < l.length) : (l.set i x).getD j d = if i = j then x else l.getD j d := by
  simp only [List.getD, List.getElem?_set]
  by_cases h : i = j
  · subst h; simp [hi]
  · simp [h]
theorem getD_snoc {α : Type} (l : List α) (j : Nat) (x d : α) : (l ++ [x]).getD j d = if j = l.length then x else l.getD j d := by
  simp only [List.getD]
  rcases Nat.lt_trichotomy j l.length with h | h | h
  · rw [List.getElem?_append_left h, if_neg (by omega)]
  · subst h; simp
  · rw [List.getElem?_eq_none (by simp; omega), if_neg (by omega), List.getElem?_eq_none (by omega)]
theorem snd_ne {ys : List Shn} (hn : (ys.map fun y => y.2).Nodup) {j : Nat} (hj : j < ys.length) {z : Shn} (hz : z ∈ ys.take j) : z.2 ≠ (ys.getD j z4).2 := by
  intro e
  have h1 : ys.take (j + 1) = ys.take j ++ [ys.getD j z4] := take_getD z4 hj
  have h2 : ((ys.take (j + 1)).map fun y => y.2).Nodup := by
    rw [List.map_take]
    exact (List.take_sublist _ _).nodup hn
  rw [h1, List.map_append, List.nodup_append] at h2
  exact h2.2.2 z.2 (List.mem_map.2 ⟨z, hz, rfl⟩) _ (by simp) e
theorem sorted_at {ys : List Shn} {f : Shn → Int} (hs : ys.Pairwise fun a b => f a ≤ f b) {j : Nat} (hj : j < ys.length) {z : Shn} (hz : z ∈ ys.take j) : f z ≤ f (ys.getD j z4) := by
  have h1 : ys.take (j + 1) = ys.take j ++ [ys.getD j z4] := take_getD z4 hj
  have h2 : (ys.take (j + 1)).Pairwise fun a b => f a ≤ f b := hs.sublist (List.take_sublist _ _)
  rw [h1, List.pairwise_append] at h2
  exact h2.2.2 z hz _ (by simp)

structure Ros (l : List Shf) (ys : List Shn) (j : Nat) (r free : List Int) : Prop where
  len : r.length = l.length
  few : free.length ≤ j
  has : ∀ y ∈ ys.take j, ∃ k : Nat, r.getD y.2.toNat 0 = k ∧ k < free.length ∧ y.1.2.1 ≤ free.getD k 0
  who : ∀ k : Nat, k < free.length → ∃ y ∈ ys.take j, r.getD y.2.toNat 0 = k ∧ free.getD k 0 = y.1.2.1
  apart : ∀ y ∈ ys.take j, ∀ z ∈ ys.take j, y.2 ≠ z.2 → r.getD y.2.toNat 0 = r.getD z.2.toNat 0 → ¬ ov y.1 z.1
  most : free.length = 0 ∨ ∃ m, free.length ≤ cnt l m

theorem mem_numy {l : List Shf} {y : Shn} (h : y ∈ byB l) : ∃ i : Nat, i < l.length ∧ y.1 = l.getD i z3 ∧ y.2 = (i : Int) ∧ y.2.toNat = i := by
  obtain ⟨i, hi, rfl⟩ := mem_byB.1 h
  exact ⟨i, hi, rfl, rfl, by simp⟩

/-- A keeper who is free, or a new one. -/
theorem Ros.step {l : List Shf} (hV : V l) {j : Nat} (hj : j < (byB l).length) {r free : List Int} (h : Ros l (byB l) j r free) {k : Nat} {free' : List Int}
    (hk : (k < free.length ∧ free.getD k 0 ≤ ((byB l).getD j z4).1.1 ∧ free' = free.set k ((byB l).getD j z4).1.2.1) ∨ (k = free.length ∧ (∀ q, q < free.length → ((byB l).getD j z4).1.1 < free.getD q 0) ∧ free' = free ++ [((byB l).getD j z4).1.2.1])) :
    Ros l (byB l) (j + 1) (r.set ((byB l).getD j z4).2.toNat (k : Int)) free' := by
  obtain ⟨y, hy⟩ : ∃ y, y = (byB l).getD j z4 := ⟨_, rfl⟩
  have hym : y ∈ byB l := by rw [hy]; exact getD_mem z4 hj
  obtain ⟨i, hi, e1, e2, e3⟩ := mem_numy hym
  have hok : okS y.1 := by rw [e1]; exact hV.2 _ (getD_mem z3 hi)
  have htk : (byB l).take (j + 1) = (byB l).take j ++ [y] := by rw [hy]; exact take_getD z4 hj
  have hne : ∀ z ∈ (byB l).take j, z.2 ≠ y.2 := fun z hz => by rw [hy]; exact snd_ne (byB_nodup l) hj hz
  have hneN : ∀ z ∈ (byB l).take j, ¬ y.2.toNat = z.2.toNat := fun z hz e => by
    obtain ⟨i', _, _, g2, g3⟩ := mem_numy (List.mem_of_mem_take hz)
    exact hne z hz (by rw [g2, e2]; omega)
  have hle : ∀ z ∈ (byB l).take j, z.1.1 ≤ y.1.1 := fun z hz => by rw [hy]; exact sorted_at (f := fun y => y.1.1) (byB_sorted l) hj hz
  rw [← hy] at hk ⊢
  have hlen : y.2.toNat < r.length := by rw [h.len, e3]; exact hi
  have hr : ∀ z ∈ (byB l).take j, (r.set y.2.toNat (k : Int)).getD z.2.toNat 0 = r.getD z.2.toNat 0 := fun z hz => by
    rw [getD_set' _ _ _ _ _ hlen, if_neg (hneN z hz)]
  have hry : (r.set y.2.toNat (k : Int)).getD y.2.toNat 0 = k := by rw [getD_set' _ _ _ _ _ hlen, if_pos rfl]
  have hnew : free'.getD k 0 = y.1.2.1 := by
    rcases hk with ⟨g1, _, g3⟩ | ⟨g1, _, g3⟩
    · rw [g3, getD_set' _ _ _ _ _ g1, if_pos rfl]
    · rw [g3, getD_snoc, if_pos g1]
  have hold : ∀ q : Nat, q < free.length → q ≠ k → free'.getD q 0 = free.getD q 0 := fun q hq hqk => by
    rcases hk with ⟨g1, _, g3⟩ | ⟨g1, _, g3⟩
    · rw [g3, getD_set' _ _ _ _ _ g1, if_neg (fun e => hqk e.symm)]
    · rw [g3, getD_snoc, if_neg (by omega)]
  have hsz : free.length ≤ free'.length ∧ k < free'.length := by
    rcases hk with ⟨g1, _, g3⟩ | ⟨g1, _, g3⟩
    · rw [g3]; simp; omega
    · rw [g3]; simp; omega
  have hend : ∀ z ∈ (byB l).take j, r.getD z.2.toNat 0 = k → z.1.2.1 ≤ y.1.1 := fun z hz e => by
    obtain ⟨q, g1, g2, g3⟩ := h.has z hz
    have : q = k := by omega
    subst this
    rcases hk with ⟨_, g4, _⟩ | ⟨g4, _, _⟩
    · omega
    · omega
  unfold okS at hok
  have hhas : ∀ z ∈ (byB l).take (j + 1), ∃ q : Nat, (r.set y.2.toNat (k : Int)).getD z.2.toNat 0 = q ∧ q < free'.length ∧ z.1.2.1 ≤ free'.getD q 0 := by
    intro z hz
    rw [htk] at hz
    rcases List.mem_append.1 hz with hz | hz
    · obtain ⟨q, g1, g2, g3⟩ := h.has z hz
      refine ⟨q, by rw [hr z hz, g1], by omega, ?_⟩
      by_cases hqk : q = k
      · subst hqk
        rw [hnew]
        have := hend z hz g1
        omega
      · rw [hold q g2 hqk]; exact g3
    · simp only [List.mem_singleton] at hz
      subst hz
      exact ⟨k, hry, hsz.2, by rw [hnew]; exact Int.le_refl _⟩
  refine ⟨by rw [List.length_set]; exact h.len, ?_, hhas, ?_, ?_, ?_⟩
  · have := h.few
    rcases hk with ⟨g1, _, g3⟩ | ⟨g1, _, g3⟩
    · rw [g3]; simp; omega
    · rw [g3]; simp; omega
  · intro q hq
    by_cases hqk : q = k
    · subst hqk
      exact ⟨y, by rw [htk]; simp, hry, hnew⟩
    · have hq' : q < free.length := by
        rcases hk with ⟨g1, _, g3⟩ | ⟨g1, _, g3⟩
        · rw [g3] at hq; simpa using hq
        · rw [g3] at hq; simp at hq; omega
      obtain ⟨z, hz, g1, g2⟩ := h.who q hq'
      exact ⟨z, by rw [htk]; simp [hz], by rw [hr z hz, g1], by rw [hold q hq' hqk, g2]⟩
  · intro a ha b hb hab e
    rw [htk] at ha hb
    rcases List.mem_append.1 ha with ha1 | ha1
    · rcases List.mem_append.1 hb with hb1 | hb1
      · rw [hr a ha1, hr b hb1] at e
        exact h.apart a ha1 b hb1 hab e
      · have hb2 : b = y := by simpa using hb1
        rw [hr a ha1, hb2, hry] at e
        have := hend a ha1 e
        rw [hb2]
        unfold ov
        omega
    · have ha2 : a = y := by simpa using ha1
      rcases List.mem_append.1 hb with hb1 | hb1
      · rw [hr b hb1, ha2, hry] at e
        have := hend b hb1 e.symm
        rw [ha2]
        unfold ov
        omega
      · have hb2 : b = y := by simpa using hb1
        exact absurd (by rw [ha2, hb2]) hab
  · rcases hk with ⟨g1, _, g3⟩ | ⟨g1, g2, g3⟩
    · rw [g3, List.length_set]; exact h.most
    · -- all are busy
      right
      refine ⟨y.1.1, ?_⟩
      have hf' : free'.length = free.length + 1 := by rw [g3]; simp
      let busy := ((byB l).take (j + 1)).filter fun z => runsB z.1 y.1.1
      have hall : ∀ q : Nat, q < free.length + 1 → ∃ z ∈ busy, (r.set y.2.toNat (k : Int)).getD z.2.toNat 0 = q := by
        intro q hq
        by_cases hqk : q = k
        · subst hqk
          refine ⟨y, List.mem_filter.2 ⟨by rw [htk]; simp, runsB_iff.2 ⟨Int.le_refl _, by omega⟩⟩, hry⟩
        · obtain ⟨z, hz, g4, g5⟩ := h.who q (by omega)
          refine ⟨z, List.mem_filter.2 ⟨by rw [htk]; simp [hz], runsB_iff.2 ⟨hle z hz, ?_⟩⟩, by rw [hr z hz, g4]⟩
          have := g2 q (by omega)
          omega
      have h1 := nodup_sub (a := (List.range (free.length + 1)).map fun q : Nat => (q : Int)) (b := busy.map fun z => (r.set y.2.toNat (k : Int)).getD z.2.toNat 0)
        (by
          rw [List.nodup_iff_pairwise_ne, List.pairwise_map]
          exact List.nodup_range.imp (R := fun a b => a ≠ b) (S := fun a b : Nat => (a : Int) ≠ (b : Int)) fun h e => h (by omega))
        (fun x hx => by
          obtain ⟨q, hq, rfl⟩ := List.mem_map.1 hx
          obtain ⟨z, hz, g4⟩ := hall q (List.mem_range.1 hq)
          exact List.mem_map.2 ⟨z, hz, g4⟩)
      rw [List.length_map, List.length_map, List.length_range] at h1
      rw [hf']
      refine Nat.le_trans h1 ?_
      have h2 : busy.length ≤ ((byB l).filter fun z => runsB z.1 y.1.1).length := ((List.take_sublist (j + 1) (byB l)).filter _).length_le
      refine Nat.le_trans h2 ?_
      rw [← List.countP_eq_length_filter]
      have h3 : ((byB l).countP fun z => runsB z.1 y.1.1) = cnt l y.1.1 := by
        unfold cnt
        rw [← (byB_fst l).countP_eq, List.countP_map]
        rfl
      omega

theorem f32 (K : Nat) (hK : 12 < K) (l : List Shf) (hl : ∀ s ∈ l, inS s) : (er l ≠ 0 ∧ implf32 K l = some ([], er l)) ∨ (er l = 0 ∧ ∃ r free, implf32 K l = some (r, 0) ∧ Ros l (byB l) (byB l).length r free) := by
  unfold implf32
  rw [f31 K hK l hl]
  simp only [obS, ibne, cdec, cnot]
  by_cases h : er l = 0
  · right
    refine ⟨h, ?_⟩
    have hV := er_ok.1 h
    have h12 := hV.1
    simp only [h, if_true]
    rw [if_pos (by omega), f67a K l hV.1 hK]
    simp only [obS]
    have hb := byB_length l
    obtain ⟨⟨r, free⟩, h1, h2⟩ := invTo (fun k j (t : List Int × List Int) => impll32_0 K k t.1 t.2 (byB l) ((byB l).length : Int) (j : Int)) (byB l).length (fun j t => Ros l (byB l) j t.1 t.2) (fun t => (t.1, t.2, ((byB l).length : Int), ()))
      (fun k j t hj hI => by
        show ∃ t' : List Int × List Int, impll32_0 K (k + 1) t.1 t.2 (byB l) _ j = impll32_0 K k t'.1 t'.2 (byB l) _ ((j + 1 : Nat) : Int) ∧ _
        rw [impll32_0, implb32_0]
        have e : (byB l).getD (j : Int).toNat (((0 : Int), (0 : Int), (0 : Int)), (0 : Int)) = (byB l).getD j z4 := rfl
        simp only [cdec, e]
        have hfew := hI.few
        have hlen := hI.len
        rw [if_pos (by omega), if_pos (by omega)]
        obtain ⟨i, hi, e1, e2, e3⟩ := mem_numy (getD_mem z4 hj)
        rcases f78d K t.2 (by omega) hK ((byB l).getD j z4) with ⟨q, g1, g2, g3⟩ | ⟨g1, g3⟩
        · rw [g3, obS, if_neg (by omega), if_pos (by omega), if_pos (by rw [e2]; omega), wrapS (by omega)]
          exact ⟨(t.1.set ((byB l).getD j z4).2.toNat (q : Int), t.2.set q ((byB l).getD j z4).1.2.1), rfl, Ros.step hV hj hI (.inl ⟨g1, g2, rfl⟩)⟩
        · rw [g3, obS, if_pos (by omega), if_pos (by simp; omega), if_pos (by simp; omega), if_pos (by rw [e2]; omega), wrapS (by omega)]
          have e4 : (t.2 ++ (List.replicate 1 (0 : Int)).set 0 0).set (t.2.length : Int).toNat ((byB l).getD j z4).1.2.1 = t.2 ++ [((byB l).getD j z4).1.2.1] := by
            show (t.2 ++ [(0 : Int)]).set t.2.length _ = _
            rw [List.set_append_right _ _ (Nat.le_refl _)]
            simp
          rw [e4]
          exact ⟨(t.1.set ((byB l).getD j z4).2.toNat (t.2.length : Int), t.2 ++ [((byB l).getD j z4).1.2.1]), rfl, Ros.step hV hj hI (.inr ⟨rfl, g1, rfl⟩)⟩)
      (fun k t _ => by
        show impll32_0 K (k + 1) t.1 t.2 (byB l) _ (byB l).length = _
        rw [impll32_0, implb32_0]
        simp only [cdec]
        rw [if_neg (by omega)]) K 0 (List.replicate l.length 0, []) (by omega) (Nat.zero_le _)
      ⟨by simp, by simp, by simp, by simp, by simp, .inl rfl⟩
    have h1 : impll32_0 K K (List.replicate l.length 0) [] (byB l) ((byB l).length : Int) 0 = some (r, free, ((byB l).length : Int), ()) := h1
    refine ⟨r, free, ?_, h2⟩
    show ob (impll32_0 K K (List.replicate l.length 0) [] (byB l) ((byB l).length : Int) 0) _ = _
    rw [h1]
    rfl
  · left
    exact ⟨h, by simp only [h, if_false]⟩

/-- What the roster is worth. -/
theorem Ros.good {l : List Shf} (hV : V l) (hl : ∀ s ∈ l, inS s) {r free : List Int} (h : Ros l (byB l) (byB l).length r free) : fair l r ∧ (∀ x ∈ r, 0 ≤ x ∧ x ≤ 11) ∧ dif r = free.length := by
  have hall : (byB l).take (byB l).length = byB l := List.take_length
  have hat : ∀ i, i < l.length → (l.getD i z3, (i : Int)) ∈ (byB l).take (byB l).length := fun i hi => by rw [hall]; exact mem_byB.2 ⟨i, hi, rfl⟩
  have hfew : free.length ≤ 12 := by have := h.few; rw [byB_length] at this; have := hV.1; omega
  have hval : ∀ x, x ∈ r ↔ ∃ k : Nat, k < free.length ∧ x = (k : Int) := by
    intro x
    constructor
    · intro hx
      obtain ⟨i, hi, e⟩ := List.getElem_of_mem hx
      obtain ⟨k, g1, g2, _⟩ := h.has _ (hat i (by rw [← h.len]; exact hi))
      refine ⟨k, g2, ?_⟩
      rw [← g1, ← e]
      simp [List.getD, hi]
    · rintro ⟨k, hk, rfl⟩
      obtain ⟨y, hy, g1, _⟩ := h.who k hk
      rw [hall] at hy
      obtain ⟨i, hi, _, _, e3⟩ := mem_numy hy
      rw [← g1, e3]
      exact getD_mem 0 (by rw [h.len]; exact hi)
  refine ⟨?_, ?_, ?_⟩
  · rintro i hi j hj ⟨e, ho⟩
    exact h.apart _ (hat i hi) _ (hat j (by omega)) (by simp; omega) (by simpa using e) ho
  · intro x hx
    obtain ⟨k, hk, rfl⟩ := (hval x).1 hx
    omega
  · obtain ⟨g1, g2⟩ := news_vals r
    have := nodup_same (b := (List.range free.length).map fun q : Nat => (q : Int)) g1 (by
      rw [List.nodup_iff_pairwise_ne, List.pairwise_map]
      exact List.nodup_range.imp (R := fun a b => a ≠ b) (S := fun a b : Nat => (a : Int) ≠ (b : Int)) fun h e => h (by omega)) (fun x => by
      rw [g2, hval]
      constructor
      · rintro ⟨k, hk, rfl⟩
        exact List.mem_map.2 ⟨k, List.mem_range.2 hk, rfl⟩
      · intro hx
        obtain ⟨k, hk, rfl⟩ := List.mem_map.1 hx
        exact ⟨k, List.mem_range.1 hk, rfl⟩)
    rw [List.length_map, List.length_map, List.length_range] at this
    exact this
end Go.Proofs.Ytbojnkcolamneaa
