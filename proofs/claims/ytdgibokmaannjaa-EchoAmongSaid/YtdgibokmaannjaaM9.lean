/- The numbers that are no delays. -/
import Derived.Test.YtdgibokmaannjaaM8
set_option linter.unusedVariables false
set_option linter.unusedSimpArgs false
namespace Go.Proofs.Ytdgibokmaannjaa
open Go Go.Pv Classical

/-! ### Lists without twins -/
theorem nodup_sub : ∀ {a b : List Int}, a.Nodup → (∀ x ∈ a, x ∈ b) → a.length ≤ b.length
  | [], b, _, _ => Nat.zero_le _
  | x :: a, b, h, hs => by
    obtain ⟨h1, h2⟩ := List.nodup_cons.1 h
    have hx : x ∈ b := hs x (by simp)
    have := nodup_sub (b := b.erase x) h2 (fun y hy => by
      have hne : y ≠ x := fun e => h1 (e ▸ hy)
      exact (List.mem_erase_of_ne hne).2 (hs y (by simp [hy])))
    rw [List.length_erase_of_mem hx] at this
    have : 0 < b.length := List.length_pos_of_mem hx
    simp
    omega
theorem nodup_same {a b : List Int} (ha : a.Nodup) (hb : b.Nodup) (h : ∀ x, x ∈ a ↔ x ∈ b) : a.length = b.length :=
  Nat.le_antisymm (nodup_sub ha fun x hx => (h x).1 hx) (nodup_sub hb fun x hx => (h x).2 hx)

theorem cmpGo_props : ∀ (l : List Int) (p : Int), (p :: l).Pairwise (fun a b => a ≤ b) → (cmpGo p l).Pairwise (fun a b => a < b) ∧ (∀ x ∈ cmpGo p l, p < x ∧ x ∈ l) ∧ ∀ x ∈ l, x = p ∨ x ∈ cmpGo p l
  | [], p, _ => by simp [cmpGo]
  | y :: r, p, h => by
    obtain ⟨h1, h2⟩ := List.pairwise_cons.1 h
    rw [cmpGo]
    by_cases e : y = p
    · subst e
      rw [if_pos rfl]
      obtain ⟨g1, g2, g3⟩ := cmpGo_props r y h2
      refine ⟨g1, fun x hx => ⟨(g2 x hx).1, by simp [(g2 x hx).2]⟩, fun x hx => ?_⟩
      rcases List.mem_cons.1 hx with rfl | hx
      · exact .inl rfl
      · exact g3 x hx
    · rw [if_neg e]
      obtain ⟨g1, g2, g3⟩ := cmpGo_props r y h2
      have hpy : p < y := by have := h1 y (by simp); omega
      refine ⟨List.pairwise_cons.2 ⟨fun x hx => (g2 x hx).1, g1⟩, fun x hx => ?_, fun x hx => ?_⟩
      · rcases List.mem_cons.1 hx with rfl | hx
        · exact ⟨hpy, by simp⟩
        · exact ⟨by have := (g2 x hx).1; omega, by simp [(g2 x hx).2]⟩
      · rcases List.mem_cons.1 hx with rfl | hx
        · exact .inr (by simp)
        · rcases g3 x hx with rfl | h
          · exact .inr (by simp)
          · exact .inr (by simp [h])
theorem compact_props {l : List Int} (h : l.Pairwise (fun a b => a ≤ b)) : (compactI l).Nodup ∧ ∀ x, x ∈ compactI l ↔ x ∈ l := by
  cases l with
  | nil => simp [compactI]
  | cons p l =>
    obtain ⟨g1, g2, g3⟩ := cmpGo_props l p h
    rw [compactI]
    refine ⟨List.nodup_cons.2 ⟨fun hp => by have := (g2 p hp).1; omega, g1.imp fun h => by omega⟩, fun x => ?_⟩
    constructor
    · intro hx
      rcases List.mem_cons.1 hx with rfl | hx
      · simp
      · simp [(g2 x hx).2]
    · intro hx
      rcases List.mem_cons.1 hx with rfl | hx
      · simp
      · rcases g3 x hx with rfl | h
        · simp
        · simp [h]
theorem leI_sorted (l : List Int) : (isort leI l).Pairwise (fun a b => a ≤ b) :=
  (isort_sorted (le := leI) (fun a b c h1 h2 => by simp only [leI, decide_eq_true_eq] at *; omega) (fun a b => by simp only [leI, decide_eq_true_eq]; omega) l).imp fun h => by simpa [leI] using h


def sp (c : List Int) : Int := c.getD (c.length - 1) 0 - c.getD 0 0
theorem V.lo {c : List Int} (h : V c) {a : Int} (ha : a ∈ c) : c.getD 0 0 ≤ a ∧ a ≤ c.getD (c.length - 1) 0 := by
  obtain ⟨i, hi, rfl⟩ := List.mem_iff_getElem.1 ha
  have hp := List.pairwise_iff_getElem.1 h.inc
  have gd : ∀ i (h : i < c.length), c.getD i 0 = c[i] := fun i h => by simp [List.getD, h]
  have h0 := h.pos
  rw [gd 0 h0, gd (c.length - 1) (by omega)]
  constructor
  · by_cases e : i = 0
    · subst e; exact Int.le_refl _
    · have := hp 0 i h0 hi (by omega); omega
  · by_cases e : i = c.length - 1
    · subst e; exact Int.le_refl _
    · have := hp i (c.length - 1) hi (by omega) (by omega); omega
theorem mem_D {c : List Int} (h : V c) {y : Int} : y ∈ D c ↔ 0 < y ∧ ∃ a ∈ c, ∃ b ∈ c, y = a - b := by
  unfold D
  rw [(isort_perm _).mem_iff, (raw_pos c h.inc).mem_iff]
  unfold posD prs
  simp only [List.mem_filter, List.mem_flatMap, List.mem_singleton, decide_eq_true_eq]
  exact ⟨fun ⟨h1, h2⟩ => ⟨h2, h1⟩, fun ⟨h1, h2⟩ => ⟨h2, h1⟩⟩
theorem sp_b {c : List Int} (h : V c) : 0 ≤ sp c ∧ sp c ≤ 60 := by
  have := h.lo (getD_mem 0 h.pos)
  unfold sp
  exact ⟨by omega, h.2.2⟩
theorem D_sp {c : List Int} (h : V c) : (∀ y ∈ D c, 1 ≤ y ∧ y ≤ sp c) ∧ (0 < sp c → sp c ∈ D c) := by
  constructor
  · intro y hy
    obtain ⟨h0, a, ha, b, hb, rfl⟩ := (mem_D h).1 hy
    have h1 := h.lo ha
    have h2 := h.lo hb
    unfold sp
    omega
  · intro h0
    exact (mem_D h).2 ⟨h0, _, getD_mem 0 (show c.length - 1 < c.length by have := h.pos; omega), _, getD_mem 0 h.pos, rfl⟩
def upN (t : Nat) : List Int := (List.range t).map fun k => ((k + 1 : Nat) : Int)
theorem upN_succ (t : Nat) : upN (t + 1) = upN t ++ [((t + 1 : Nat) : Int)] := by unfold upN; rw [List.range_succ, List.map_append]; rfl
noncomputable def ms (d : List Int) (t : Nat) : List Int := (upN t).filter fun n => decide (n ∉ d)
theorem ms_succ (d : List Int) (t : Nat) : ms d (t + 1) = ms d t ++ if ((t + 1 : Nat) : Int) ∈ d then [] else [((t + 1 : Nat) : Int)] := by
  unfold ms
  rw [upN_succ, List.filter_append]
  congr 1
  generalize ((t + 1 : Nat) : Int) = z
  by_cases h : z ∈ d
  · rw [if_pos h]; simp [h]
  · rw [if_neg h]; simp [h]
theorem ms_len (d : List Int) (t : Nat) : (ms d t).length ≤ t := by
  unfold ms
  refine Nat.le_trans (List.length_filter_le _ _) ?_
  simp [upN]
theorem w80 (l : List Int) (x : Int) (hl : l.length ≤ 1000) : implf80 5000 l x = some (decide (x ∈ l)) := by
  unfold implf80
  have h := uptoAll (fun k (j : Nat) => impll80_0 5000 k l x (j : Int)) (fun j => j) l.length (fun j => ¬ l.getD j 0 = x) (.inl ((l.length : Int), ())) (.inr true)
    (fun k j hj hp => by
      show impll80_0 5000 (k + 1) l x (j : Int) = _
      rw [impll80_0, implb80_0, cdec, if_pos (by omega), if_pos ⟨by omega, by omega⟩, ibeq, cdec, Int.toNat_natCast, if_neg hp, wrapS (by omega)])
    (fun k j hj hp => by
      show impll80_0 5000 (k + 1) l x (j : Int) = _
      rw [impll80_0, implb80_0, cdec, if_pos (by omega), if_pos ⟨by omega, by omega⟩, ibeq, cdec, Int.toNat_natCast, if_pos (Classical.not_not.1 hp)])
    (fun k => by
      show impll80_0 5000 (k + 1) l x (l.length : Int) = _
      rw [impll80_0, implb80_0, cdec, if_neg (by omega)]) 5000 0 (by omega) (Nat.zero_le _)
  have h : impll80_0 5000 5000 l x 0 = _ := h
  rw [h, obS]
  have hA := all_getD (l := l) 0 (fun y => ¬ y = x)
  by_cases g : x ∈ l
  · rw [if_neg (fun h => hA.1 h x g rfl), decide_eq_true g]
  · rw [if_pos (hA.2 fun s hs e => g (e ▸ hs)), decide_eq_false g]
theorem w100m (l : List Int) (x : Int) (hl : l.length ≤ 1000) : ∃ v, implf100 5000 l x = some v ∧ (v ≥ 0 ↔ x ∈ l) := by
  rcases w100 l x hl with ⟨h1, h2⟩ | ⟨i, h1, h2, h3⟩
  · exact ⟨-1, h1, fun h => absurd h (by decide), fun h => absurd h h2⟩
  · exact ⟨i, h3, fun _ => h2 ▸ getD_mem 0 h1, fun _ => by omega⟩
noncomputable def msR (c : List Int) : List Int × Int := (if V c then ms (D c) (sp c - 1).toNat else [], vErr c)
theorem w46 (c : List Int) (hc : c.length ≤ 1000) : implf46 5000 c = some (msR c) := by
  unfold implf46 msR
  rw [w32 c hc, obS, ibne, cnot, cdec]
  by_cases h : V c
  · have hl6 := h.1.2
    have hp := h.pos
    have hd := D_len hl6
    have hs := sp_b h
    rw [if_pos (v_err.2 h), if_pos h, w70 c hl6 h.B, obS]
    have hh := upto (fun k (t : List Int × Nat) => impll46_0 5000 k c (D c) t.1 (t.2 : Int)) (fun j => (ms (D c) j, j + 1)) (sp c - 1).toNat (ms (D c) (sp c - 1).toNat, (((sp c - 1).toNat + 1 : Nat) : Int), ())
      (fun k j hj => by
        show impll46_0 5000 (k + 1) c (D c) (ms (D c) j) ((j + 1 : Nat) : Int) = _
        have hm := ms_len (D c) j
        obtain ⟨v, hv, hvm⟩ := w100m (D c) ((j + 1 : Nat) : Int) (by omega)
        rw [impll46_0, implb46_0, wrapP hp (by omega), if_pos ⟨by omega, by omega⟩, if_pos ⟨by omega, by omega⟩, Int.toNat_natCast]
        change (bif decide (((j + 1 : Nat) : Int) < IntKind.i64.wrap (sp c)) then _ else _) = _
        rw [wrapI (n := sp c) (by omega) (by omega), cdec, if_pos (by omega), hv, obS, cnot, cdec, wrapS (by omega)]
        show _ = impll46_0 5000 k c (D c) (ms (D c) (j + 1)) ((j + 1 + 1 : Nat) : Int)
        rw [ms_succ]
        by_cases g : v ≥ 0
        · rw [if_pos g, if_pos (hvm.1 g), List.append_nil]
        · rw [if_neg g, if_neg (fun e => g (hvm.2 e)), if_pos (by simp; omega), one1])
      (fun k => by
        show impll46_0 5000 (k + 1) c (D c) (ms (D c) (sp c - 1).toNat) (((sp c - 1).toNat + 1 : Nat) : Int) = _
        rw [impll46_0, implb46_0, wrapP hp (by omega), if_pos ⟨by omega, by omega⟩, if_pos ⟨by omega, by omega⟩, Int.toNat_natCast]
        change (bif decide ((((sp c - 1).toNat + 1 : Nat) : Int) < IntKind.i64.wrap (sp c)) then _ else _) = _
        rw [wrapI (n := sp c) (by omega) (by omega), cdec, if_neg (by omega)]) 5000 0 (by omega) (Nat.zero_le _)
    have hh : impll46_0 5000 5000 c (D c) [] 1 = _ := hh
    rw [hh, obS, v_err.2 h]
  · rw [if_neg (fun e => h (v_err.1 e)), if_neg h]
theorem w47 (c : List Int) (hc : c.length ≤ 1000) : implf47 5000 c = some (msR c) := by
  unfold implf47 msR
  rw [w33 c hc, obS, ibne, cnot, cdec]
  by_cases h : V c
  · have hl6 := h.1.2
    have hp := h.pos
    have hd := D_len hl6
    have hs := sp_b h
    rw [if_pos (v_err.2 h), if_pos h, w71 c hl6 h.B, obS]
    have hh := upto (fun k (t : List Int × Nat) => impll47_0 5000 k c (D c) t.1 (t.2 : Int)) (fun j => (ms (D c) j, j + 1)) (sp c - 1).toNat (ms (D c) (sp c - 1).toNat, (((sp c - 1).toNat + 1 : Nat) : Int), ())
      (fun k j hj => by
        show impll47_0 5000 (k + 1) c (D c) (ms (D c) j) ((j + 1 : Nat) : Int) = _
        have hm := ms_len (D c) j
        rw [impll47_0, implb47_0, wrapP hp (by omega), if_pos ⟨by omega, by omega⟩, if_pos ⟨by omega, by omega⟩, Int.toNat_natCast]
        change (bif decide (((j + 1 : Nat) : Int) < IntKind.i64.wrap (sp c)) then _ else _) = _
        rw [wrapI (n := sp c) (by omega) (by omega), cdec, if_pos (by omega), w80 _ _ (by omega), obS, cnot, cdec, wrapS (by omega)]
        show _ = impll47_0 5000 k c (D c) (ms (D c) (j + 1)) ((j + 1 + 1 : Nat) : Int)
        rw [ms_succ]
        by_cases g : ((j + 1 : Nat) : Int) ∈ D c
        · rw [if_pos g, if_pos g, List.append_nil]
        · rw [if_neg g, if_neg g, if_pos (by simp; omega), one1])
      (fun k => by
        show impll47_0 5000 (k + 1) c (D c) (ms (D c) (sp c - 1).toNat) (((sp c - 1).toNat + 1 : Nat) : Int) = _
        rw [impll47_0, implb47_0, wrapP hp (by omega), if_pos ⟨by omega, by omega⟩, if_pos ⟨by omega, by omega⟩, Int.toNat_natCast]
        change (bif decide ((((sp c - 1).toNat + 1 : Nat) : Int) < IntKind.i64.wrap (sp c)) then _ else _) = _
        rw [wrapI (n := sp c) (by omega) (by omega), cdec, if_neg (by omega)]) 5000 0 (by omega) (Nat.zero_le _)
    have hh : impll47_0 5000 5000 c (D c) [] 1 = _ := hh
    rw [hh, obS, v_err.2 h]
  · rw [if_neg (fun e => h (v_err.1 e)), if_neg h]

/-! ### How many there are -/
theorem ct_succ (d : List Int) {j : Nat} (hj : j < d.length) : (compactI (d.take (j + 1))).length = (compactI (d.take j)).length + if j = 0 ∨ d.getD j 0 ≠ d.getD (j - 1) 0 then 1 else 0 := by
  rw [take_getD 0 hj]
  cases ht : d.take j with
  | nil =>
    have : j = 0 := by
      have := congrArg List.length ht
      rw [List.length_take, List.length_nil] at this
      omega
    subst this
    simp [compactI, cmpGo]
  | cons a l =>
    have hj0 : 0 < j := by
      rcases Nat.eq_zero_or_pos j with h0 | h0
      · subst h0; simp at ht
      · exact h0
    show (a :: cmpGo a (l ++ [d.getD j 0])).length = (a :: cmpGo a l).length + _
    rw [cmpGo_snoc]
    have hlast : (a :: l).getLast (by simp) = d.getD (j - 1) 0 := by
      have h1 : (d.take j).getLast (by rw [ht]; simp) = d.getD (j - 1) 0 := by
        rw [List.getLast_eq_getElem, List.getElem_take]
        have e : (d.take j).length - 1 = j - 1 := by rw [List.length_take]; omega
        simp only [e]
        simp [List.getD, show j - 1 < d.length by omega]
      simpa [ht] using h1
    rw [hlast]
    by_cases g : d.getD j 0 = d.getD (j - 1) 0
    · rw [if_pos g, if_neg (by rintro (h | h); omega; exact h g)]; simp
    · rw [if_neg g, if_pos (.inr g)]; simp
theorem fil_two (p : Int → Bool) : ∀ l : List Int, (l.filter p).length + (l.filter fun x => !p x).length = l.length
  | [] => rfl
  | x :: l => by
    have := fil_two p l
    cases h : p x <;> simp [h] <;> omega
theorem count_all {c : List Int} (h : V c) : (compactI (D c)).length + (ms (D c) (sp c - 1).toNat).length = (sp c).toNat := by
  have hs := sp_b h
  obtain ⟨d1, d2⟩ := D_sp h
  obtain ⟨g1, g2⟩ := compact_props (leI_sorted (rawD c))
  have hS : (ms (D c) (sp c - 1).toNat).length = (ms (D c) (sp c).toNat).length := by
    by_cases h0 : 0 < sp c
    · have e : (sp c).toNat = (sp c - 1).toNat + 1 := by omega
      rw [e, ms_succ, if_pos, List.append_nil]
      have : (((sp c - 1).toNat + 1 : Nat) : Int) = sp c := by omega
      rw [this]; exact d2 h0
    · have e : (sp c).toNat = 0 := by omega
      have e2 : (sp c - 1).toNat = 0 := by omega
      rw [e, e2]
  have hup : ∀ y, y ∈ upN (sp c).toNat ↔ 1 ≤ y ∧ y ≤ sp c := by
    intro y
    unfold upN
    simp only [List.mem_map, List.mem_range]
    constructor
    · rintro ⟨k, hk, rfl⟩; omega
    · rintro ⟨h1, h2⟩; exact ⟨(y - 1).toNat, by omega, by omega⟩
  have hnd : (upN (sp c).toNat).Nodup := by
    unfold upN
    rw [List.nodup_iff_pairwise_ne, List.pairwise_map]
    exact (List.nodup_iff_pairwise_ne.1 List.nodup_range).imp fun h e => h (by omega)
  have hc : (compactI (D c)).length = ((upN (sp c).toNat).filter fun n => decide (n ∈ D c)).length := by
    refine nodup_same g1 (hnd.filter _) fun x => ?_
    have g2 : x ∈ compactI (D c) ↔ x ∈ D c := g2 x
    rw [g2, List.mem_filter, hup, decide_eq_true_eq]
    exact ⟨fun hx => ⟨d1 x hx, hx⟩, fun hx => hx.2⟩
  have ht := fil_two (fun n => decide (n ∈ D c)) (upN (sp c).toNat)
  have e : ((upN (sp c).toNat).filter fun x => !decide (x ∈ D c)) = ms (D c) (sp c).toNat := by
    unfold ms
    congr 1; funext x; simp
  rw [e] at ht
  rw [hS, hc, ht]
  simp [upN]
theorem missing_all (c : List Int) : implf12 5000 c = some true := by
  unfold implf12
  rw [long1, obS, cdec]
  by_cases hl : 100 < c.length
  · rw [if_pos hl, sane5]; rfl
  · have hn : (msR c).1.length ≤ 1000 := by
      unfold msR
      by_cases h : V c
      · have := sp_b h
        have := ms_len (D c) (sp c - 1).toNat
        rw [if_pos h]; show (ms (D c) (sp c - 1).toNat).length ≤ 1000; omega
      · rw [if_neg h]; simp
    rw [if_neg hl, w46 c (by omega), w47 c (by omega), obS, obS, w24 _ _ hn, obS, decide_eq_true rfl]
    simp only [Bool.not_true, cond_false, ibne, cnot, decide_true, cdec, if_true, w29 c (by omega), obS]
    by_cases h : V c
    · have he : (msR c).2 = 0 := v_err.2 h
      have hp := h.pos
      have hs := sp_b h
      have hl6 := h.1.2
      have hd := D_len hl6
      have hm := ms_len (D c) (sp c - 1).toNat
      have hh := upto (fun k (t : Int × Nat) => impll12_0 5000 k c (msR c).1 (D c) (vErr c) t.1 (t.2 : Int)) (fun j => (((compactI ((D c).take j)).length : Int), j)) (D c).length (((compactI (D c)).length : Int), ((D c).length : Int), ())
        (fun k j hj => by
          show impll12_0 5000 (k + 1) c (msR c).1 (D c) (vErr c) ((compactI ((D c).take j)).length : Int) (j : Int) = _
          show _ = impll12_0 5000 k c (msR c).1 (D c) (vErr c) ((compactI ((D c).take (j + 1))).length : Int) ((j + 1 : Nat) : Int)
          have hcl := (compact_len ((D c).take j)).1
          rw [List.length_take] at hcl
          rw [ct_succ _ hj, impll12_0, implb12_0, cdec, if_pos (by omega), ibeq, cdec]
          by_cases h0 : j = 0
          · rw [if_pos (by omega), if_pos (.inl h0), wrapS (by omega), wrapS (by omega)]
          · rw [if_neg (by omega), if_pos ⟨by omega, by omega⟩, wrapP (by omega) (by omega), if_pos ⟨by omega, by omega⟩, ibne, cnot, cdec, Int.toNat_natCast, Int.toNat_natCast]
            by_cases g : (D c).getD j 0 = (D c).getD (j - 1) 0
            · rw [if_pos g, if_neg (by rintro (h | h); exact h0 h; exact h g), wrapS (by omega)]; rfl
            · rw [if_neg g, if_pos (.inr g), wrapS (by omega), wrapS (by omega)])
        (fun k => by
          show impll12_0 5000 (k + 1) c (msR c).1 (D c) (vErr c) ((compactI ((D c).take (D c).length)).length : Int) ((D c).length : Int) = _
          rw [impll12_0, implb12_0, cdec, if_neg (by omega), List.take_length]) 5000 0 (by omega) (Nat.zero_le _)
      have hh : impll12_0 5000 5000 c (msR c).1 (D c) (vErr c) 0 0 = _ := hh
      rw [if_pos he, if_pos h, hh, obS, v_err.2 h]
      have hca := count_all h
      have hm1 : (msR c).1 = ms (D c) (sp c - 1).toNat := by unfold msR; rw [if_pos h]
      rw [wrapP hp (by omega), if_pos ⟨by omega, by omega⟩, if_pos ⟨by omega, by omega⟩, Int.toNat_natCast, hm1, ibeq, ibeq]
      change (bif decide ((0 : Int) = 0) then (bif decide (IntKind.i64.wrap (((compactI (D c)).length : Int) + ((ms (D c) (sp c - 1).toNat).length : Int)) = IntKind.i64.wrap (sp c)) then (ob (implf19 5000) fun y9 => some y9) else some false) else some false) = some true
      rw [wrapI (by omega) (by omega), wrapI (n := sp c) (by omega) (by omega), decide_eq_true rfl, decide_eq_true (by omega), sane5]; rfl
    · have he : ¬ (msR c).2 = 0 := fun e => h (v_err.1 e)
      rw [if_neg he, sane5]; rfl
end Go.Proofs.Ytdgibokmaannjaa
