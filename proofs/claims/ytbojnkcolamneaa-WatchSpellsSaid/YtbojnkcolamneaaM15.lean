/- The shifts seen from the other end of the time; the shifts without one. -/
import Derived.Test.YtbojnkcolamneaaM14
set_option linter.unusedVariables false
set_option linter.unusedSimpArgs false
namespace Go.Proofs.Ytbojnkcolamneaa
open Go Go.Pv Classical

/-- What Earn returns, in one way. -/
theorem f24' (K : Nat) (hK : 13 < K) (l : List Shf) (hl : ∀ s ∈ l, inS s) : ∃ x v, implf24 K l = some (if er l = 0 then (x, v, 0) else ([], 0, er l)) ∧ (er l = 0 → isAl l x ∧ pay l x = v ∧ ∀ y, isAl l y → pay l y ≤ v) := by
  rcases f24 K hK l hl with ⟨h, e⟩ | ⟨h, x, v, e, h1, h2, h3⟩
  · exact ⟨[], 0, by rw [e, if_neg h], fun g => absurd g h⟩
  · exact ⟨x, v, by rw [e, if_pos h], fun _ => ⟨h1, h2, h3⟩⟩

/-! ### Mirrored -/
def mi (s : Shf) : Shf := (1000 - s.2.1, 1000 - s.1, s.2.2)
def mir (l : List Shf) : List Shf := l.map mi
theorem mi_ok {s : Shf} (h : okS s) : okS (mi s) := by unfold okS mi at *; simp only []; omega
theorem mir_V {l : List Shf} (h : V l) : V (mir l) := ⟨by rw [mir, List.length_map]; exact h.1, fun s hs => by
  obtain ⟨t, ht, rfl⟩ := List.mem_map.1 hs
  exact mi_ok (h.2 t ht)⟩
theorem mi_mi (s : Shf) : mi (mi s) = s := by
  obtain ⟨a, b, c⟩ := s
  unfold mi
  simp only []
  congr 1
  · omega
  · congr 1; omega
theorem mir_mir (l : List Shf) : mir (mir l) = l := by
  unfold mir
  rw [List.map_map]
  conv => rhs; rw [← List.map_id l]
  exact List.map_congr_left fun s _ => mi_mi s
theorem rn_mi {s : Shf} {m : Int} : rn (mi s) m ↔ rn s (999 - m) := by unfold rn mi; simp only []; omega
theorem cnt_mir (l : List Shf) (m : Int) : cnt (mir l) m = cnt l (999 - m) := by
  unfold cnt mir
  rw [List.countP_map]
  congr 1
  funext s
  rw [Bool.eq_iff_iff]
  show runsB (mi s) m = true ↔ _
  rw [runsB_iff, runsB_iff, rn_mi]
theorem sh_mir (l : List Shf) {i : Int} (hi : 0 ≤ i ∧ i < (l.length : Int)) : sh (mir l) i = mi (sh l i) := by
  unfold sh mir
  exact getD_map z3 z3 mi (by omega)
theorem ov_mi {s t : Shf} : ov (mi s) (mi t) ↔ ov s t := by unfold ov mi; simp only []; omega
theorem isAl_mir {l : List Shf} {x : List Int} (h : isAl l x) : isAl (mir l) x := by
  refine ⟨by rw [mir, List.length_map]; exact h.1, ?_⟩
  have hin := isAl_in h
  have := h.2
  unfold alo at *
  refine this.imp_of_mem fun {a b} ha hb hab => ?_
  rw [sh_mir l (hin a ha), sh_mir l (hin b hb), ov_mi]
  exact hab
theorem pay_mir (l : List Shf) : ∀ x : List Int, (∀ a ∈ x, 0 ≤ a ∧ a < (l.length : Int)) → pay (mir l) x = pay l x
  | [], _ => rfl
  | a :: x, h => by
    have h1 := sh_mir l (h a (by simp))
    rw [pay, pay, pay_mir l x fun b hb => h b (List.mem_cons_of_mem _ hb), h1]
    rfl
theorem isPk_mir {l : List Shf} {a b : Int} {n k : Nat} (h : isPk l a n) (g : isPk (mir l) b k) : n = k := by
  have h1 : ∀ m, cnt l m ≤ k := fun m => by
    have := g.1 (999 - m)
    rwa [cnt_mir, show 999 - (999 - m) = m by omega] at this
  have h2 : ∀ m, cnt (mir l) m ≤ n := fun m => by rw [cnt_mir]; exact h.1 _
  rcases h.2 with ⟨h3, _⟩ | ⟨h3, h4, _⟩
  · rcases g.2 with ⟨g3, _⟩ | ⟨g3, g4, _⟩
    · omega
    · have := h2 b; omega
  · rcases g.2 with ⟨g3, _⟩ | ⟨g3, g4, _⟩
    · have := h1 a; omega
    · have := h1 a; have := h2 b; omega
theorem cf_first (p : Nat → Bool) : ∀ n, cf p (n + 1) = (if p 0 then 1 else 0) + cf (fun m => p (m + 1)) n
  | 0 => by simp [cf]
  | n + 1 => by
    rw [cf, cf_first p n, cf]
    omega
theorem cf_rev : ∀ (n : Nat) (p : Nat → Bool), cf (fun m => p (n - 1 - m)) n = cf p n
  | 0, p => rfl
  | n + 1, p => by
    rw [cf_first p n, cf]
    have e : cf (fun m => p (n + 1 - 1 - m)) n = cf (fun m => p (m + 1)) n := by
      rw [← cf_rev n (fun m => p (m + 1))]
      exact cf_congr fun m hm => by rw [show n + 1 - 1 - m = n - 1 - m + 1 by omega]
    rw [e, show n + 1 - 1 - n = 0 by omega]
    omega
theorem covl_mir (l : List Shf) : covl (mir l) = covl l := by
  unfold covl
  rw [← cf_rev 1000 (fun m => decide (cvd l (m : Int)))]
  exact cf_congr fun m hm => by
    rw [decide_eq_decide]
    unfold cvd
    rw [cnt_mir, show ((1000 - 1 - m : Nat) : Int) = 999 - (m : Int) by omega]
theorem l52 (K : Nat) (hK : 12 < K) (l : List Shf) (hV : V l) : impll52_0 K K [] l (l.length : Int) 0 = some (mir l, (l.length : Int), ()) := by
  have h12 := hV.1
  have := upto (fun k (j : Nat) => impll52_0 K k ((l.take j).map mi) l (l.length : Int) (j : Int)) (fun j => j) l.length (mir l, (l.length : Int), ())
    (fun k j hj => by
      show impll52_0 K (k + 1) _ l _ j = impll52_0 K k _ l _ ((j + 1 : Nat) : Int)
      have hs := hV.2 _ (getD_mem z3 hj)
      have e : l.getD (j : Int).toNat ((0 : Int), (0 : Int), (0 : Int)) = l.getD j z3 := rfl
      rw [impll52_0, implb52_0]
      unfold okS at hs
      simp only [cdec, e]
      rw [if_pos (by omega), if_pos (by omega), wrapS (by omega), if_pos (by simp; omega), wrapI (by omega) (by omega), wrapI (by omega) (by omega), ← map_snoc z3 mi hj]
      rfl)
    (fun k => by
      show impll52_0 K (k + 1) _ l _ l.length = _
      rw [impll52_0, implb52_0]
      simp only [cdec]
      rw [if_neg (by omega), List.take_length]
      rfl) K 0 (by omega) (Nat.zero_le _)
  exact this
theorem l53 (K : Nat) (hK : 12 < K) (l : List Shf) (hV : V l) : impll53_0 K K l [] 0 = some (mir l, (l.length : Int), ()) := by
  have h12 := hV.1
  have := upto (fun k (j : Nat) => impll53_0 K k l ((l.take j).map mi) (j : Int)) (fun j => j) l.length (mir l, (l.length : Int), ())
    (fun k j hj => by
      show impll53_0 K (k + 1) l _ j = impll53_0 K k l _ ((j + 1 : Nat) : Int)
      have hs := hV.2 _ (getD_mem z3 hj)
      have e : l.getD (j : Int).toNat ((0 : Int), (0 : Int), (0 : Int)) = l.getD j z3 := rfl
      rw [impll53_0, implb53_0]
      unfold okS at hs
      simp only [cdec, e]
      rw [if_pos (by omega), if_pos (by omega), if_pos (by omega), if_pos (by omega), wrapS (by omega), if_pos (by simp; omega), wrapI (by omega) (by omega), wrapI (by omega) (by omega), ← map_snoc z3 mi hj]
      rfl)
    (fun k => by
      show impll53_0 K (k + 1) l _ l.length = _
      rw [impll53_0, implb53_0]
      simp only [cdec]
      rw [if_neg (by omega), List.take_length]
      rfl) K 0 (by omega) (Nat.zero_le _)
  exact this
theorem f52 (K : Nat) (hK : 12 < K) (l : List Shf) (hl : ∀ s ∈ l, inS s) : implf52 K l = some (if er l = 0 then (mir l, 0) else ([], er l)) := by
  unfold implf52
  rw [f31 K hK l hl]
  simp only [obS, ibne, cdec, cnot]
  by_cases h : er l = 0
  · rw [if_pos h, if_pos h, l52 K hK l (er_ok.1 h), obS]
  · rw [if_neg h, if_neg h]
theorem f53 (K : Nat) (hK : 12 < K) (l : List Shf) : implf53 K l = some (if er l = 0 then (mir l, 0) else ([], er l)) := by
  unfold implf53
  rw [f25 K hK l]
  simp only [obS, ibne, cdec, cnot]
  by_cases h : er l = 0
  · rw [if_pos h, if_pos h, l53 K hK l (er_ok.1 h), obS]
  · rw [if_neg h, if_neg h]
theorem okS_in' {s : Shf} (h : okS s) : inS s := by
  unfold okS at h
  unfold inS inI
  omega
theorem f54 (K : Nat) (hK : 13 < K) (l : List Shf) (hV : V l) : implf54 K l (mir l) = some true := by
  have hV' := mir_V hV
  have he := er_ok.2 hV
  have he' := er_ok.2 hV'
  have hl : ∀ s ∈ l, inS s := fun s hs => okS_in' (hV.2 s hs)
  have hl' : ∀ s ∈ mir l, inS s := fun s hs => okS_in' (hV'.2 s hs)
  obtain ⟨x, v, e1, g1⟩ := f24' K hK l hl
  obtain ⟨y, u, e2, g2⟩ := f24' K hK (mir l) hl'
  obtain ⟨a1, a2, a3⟩ := g1 he
  obtain ⟨b1, b2, b3⟩ := g2 he'
  unfold implf54
  rw [f23' K (by omega) l hl, f23' K (by omega) _ hl', f40 K (by omega) l hl, f40 K (by omega) _ hl', e1, e2, f39 K (by omega) l hl, f39 K (by omega) _ hl']
  unfold pkr
  simp only [obS, if_pos he, if_pos he', ibeq, cdec, if_true]
  have p1 := pk_is hl he
  have p2 := pk_is hl' he'
  have q1 : (pk l).2 = (pk (mir l)).2 := isPk_mir p1 p2
  have q2 : (alset l).length = (alset (mir l)).length := by
    rw [alset_len, alset_len]
    have c1 := al_most hV' (isAl_mir (alset_ok hV))
    have c2 := al_most hV (by have := isAl_mir (alset_ok hV'); rwa [mir_mir] at this)
    rw [alset_len] at c1 c2
    omega
  have q3 : v = u := by
    have c1 := b3 _ (isAl_mir a1)
    rw [pay_mir l _ (isAl_in a1)] at c1
    have m1 := isAl_mir b1
    rw [mir_mir] at m1
    have c2 := a3 _ m1
    have c3 := pay_mir l y (isAl_in m1)
    omega
  rw [if_pos (by omega), if_pos (by omega), if_pos q3, covl_mir, decide_eq_true rfl]

/-! ### Without one -/
def wo (l : List Shf) (i : Nat) : List Shf := l.take i ++ l.drop (i + 1)
theorem wo_len {l : List Shf} {i : Nat} (hi : i < l.length) : (wo l i).length + 1 = l.length := by unfold wo; simp; omega
theorem wo_sub (l : List Shf) (i : Nat) : (wo l i).Sublist l := by
  have : l.take i ++ l.drop (i + 1) = l.eraseIdx i := (List.eraseIdx_eq_take_drop_succ l i).symm
  unfold wo
  rw [this]
  exact List.eraseIdx_sublist l i
theorem wo_V {l : List Shf} (h : V l) (i : Nat) : V (wo l i) := ⟨Nat.le_trans (wo_sub l i).length_le h.1, fun s hs => h.2 s ((wo_sub l i).subset hs)⟩
theorem cnt_wo (l : List Shf) (i : Nat) (m : Int) : cnt (wo l i) m ≤ cnt l m := (wo_sub l i).countP_le
theorem covl_wo (l : List Shf) (i : Nat) : covl (wo l i) ≤ covl l := cf_mono fun m _ h => by
  have h : cvd (wo l i) (m : Int) := of_decide_eq_true h
  exact decide_eq_true (Nat.lt_of_lt_of_le h (cnt_wo l i m))
theorem isPk_wo {l : List Shf} {i : Nat} {a b : Int} {n k : Nat} (h : isPk (wo l i) a n) (g : isPk l b k) : n ≤ k := by
  rcases h.2 with ⟨h3, _⟩ | ⟨h3, h4, _⟩
  · omega
  · have := cnt_wo l i a
    have := g.1 a
    omega
/-- The number that a shift had. -/
def up (i : Nat) (a : Int) : Int := if a < (i : Int) then a else a + 1
theorem up_lt {i : Nat} {a b : Int} (h : a < b) : up i a < up i b := by unfold up; split <;> split <;> omega
theorem sh_wo {l : List Shf} {i : Nat} (hi : i < l.length) {a : Int} (ha : 0 ≤ a ∧ a < ((wo l i).length : Int)) : sh (wo l i) a = sh l (up i a) := by
  have hw := wo_len hi
  obtain ⟨n, rfl⟩ : ∃ n : Nat, a = (n : Int) := ⟨a.toNat, by omega⟩
  unfold sh up wo
  simp only [List.getD_eq_getElem?_getD]
  congr 1
  by_cases c : (n : Int) < (i : Int)
  · rw [if_pos c, List.getElem?_append_left (by simp; omega), List.getElem?_take, if_pos (by omega)]
  · rw [if_neg c, List.getElem?_append_right (by simp; omega), List.getElem?_drop]
    congr 1
    simp
    omega
theorem isAl_up {l : List Shf} {i : Nat} (hi : i < l.length) {x : List Int} (h : isAl (wo l i) x) : isAl l (x.map (up i)) := by
  have hin := isAl_in h
  have hw := wo_len hi
  refine ⟨⟨?_, ?_⟩, ?_⟩
  · rw [List.pairwise_map]
    exact h.1.1.imp fun g => up_lt g
  · intro b hb
    obtain ⟨a, ha, rfl⟩ := List.mem_map.1 hb
    have := hin a ha
    unfold up; split <;> omega
  · have := h.2
    unfold alo at *
    rw [List.pairwise_map]
    refine this.imp_of_mem fun {a b} ha hb hab => ?_
    rwa [← sh_wo hi (hin a ha), ← sh_wo hi (hin b hb)]
theorem pay_up {l : List Shf} {i : Nat} (hi : i < l.length) : ∀ x : List Int, (∀ a ∈ x, 0 ≤ a ∧ a < ((wo l i).length : Int)) → pay l (x.map (up i)) = pay (wo l i) x
  | [], _ => rfl
  | a :: x, h => by
    rw [List.map_cons, pay, pay, pay_up hi x fun b hb => h b (List.mem_cons_of_mem _ hb), sh_wo hi (h a (by simp))]
noncomputable def wot (l : List Shf) (i : Int) : List Shf × Int := if er l ≠ 0 then ([], er l) else if ix l i then (wo l i.toNat, 0) else ([], 4)
theorem f55 (K : Nat) (hK : 12 < K) (l : List Shf) (hl : ∀ s ∈ l, inS s) (i : Int) : implf55 K l i = some (wot l i) := by
  unfold implf55 wot
  rw [show (List.replicate 1 (0 : Int)).set 0 i = [i] from rfl, f75_1 K hK l hl]
  simp only [obS, ibne, cdec, cnot]
  by_cases h : er l = 0
  · have h12 := (er_ok.1 h).1
    simp only [h, ne_eq, not_true_eq_false, if_false]
    by_cases g : ix l i
    · have gi := ix_iff.1 g
      have e89 : implf89 K l = some l := by
        unfold implf89
        rw [if_pos (by simp; omega)]
        rfl
      simp only [g, if_true, not_true_eq_false, if_false, e89, obS]
      unfold implf90
      rw [wrapI (by omega) (by omega), if_pos (by omega), obS]
      unfold wo
      rw [show (i + 1).toNat = i.toNat + 1 by omega]
    · simp only [g, if_false, not_false_eq_true, if_true]
      rfl
  · simp only [h, ne_eq, not_false_eq_true, if_true, if_false]
theorem f56 (K : Nat) (hK : 12 < K) (l : List Shf) (i : Int) : implf56 K l i = some (wot l i) := by
  unfold implf56 wot
  rw [f76 K hK l]
  simp only [obS, ibne, cdec, cnot]
  by_cases h : er l = 0
  · have h12 := (er_ok.1 h).1
    simp only [h, ne_eq, not_true_eq_false, if_false]
    by_cases g : ix l i
    · have gi := ix_iff.1 g
      have ew : IntKind.i64.wrap (i + 1) = i + 1 := wrapI (by omega) (by omega)
      simp only [g, if_true, not_true_eq_false, if_false, obS, ew]
      rw [if_pos (by omega), if_pos (by simp; omega), if_pos (by omega), if_pos (by simp; omega)]
      unfold wo
      rw [show (i + 1).toNat = i.toNat + 1 by omega]
      rfl
    · simp only [g, if_false, not_false_eq_true, if_true]
      rfl
  · simp only [h, ne_eq, not_false_eq_true, if_true, if_false]
end Go.Proofs.Ytbojnkcolamneaa
