/- Boxes whose states have other numbers. -/
import Derived.Test.YthdmngalhppkcaaM2
set_option linter.unusedVariables false
set_option linter.unusedSimpArgs false
namespace Go.Proofs.Ythdmngalhppkcaa
open Go Go.Pv Classical

/-- The new number of a state. -/
def tt (t : List Int) (s : Int) : Int := t.getD s.toNat 0
def rrow (b : Bx) (t : List Int) (j : Nat) : List Int := ((List.replicate 2 0).set 0 (tt t (nx b j 0))).set 1 (tt t (nx b j 1))
/-- The first j states are renamed. -/
def R (b : Bx) (t : List Int) : Nat → Bx
  | 0 => (List.replicate b.1.length (List.replicate 2 0), List.replicate b.1.length 0)
  | j + 1 => ((R b t j).1.set (tt t j).toNat (rrow b t j), (R b t j).2.set (tt t j).toNat (ot b j))
def rn (b : Bx) (t : List Int) : Bx := R b t b.1.length

/-- Numbers for all states. -/
def num (n : Nat) (t : List Int) : Prop := t.length = n ∧ ∀ x ∈ t, 0 ≤ x ∧ x < (n : Int)

theorem R_len (b : Bx) (t : List Int) : ∀ j, (R b t j).1.length = b.1.length ∧ (R b t j).2.length = b.1.length
  | 0 => by simp [R]
  | j + 1 => by have := R_len b t j; simp [R, this]

theorem tt_in {n : Nat} {t : List Int} (h : num n t) {s : Int} (hs : 0 ≤ s ∧ s < (n : Int)) : 0 ≤ tt t s ∧ tt t s < (n : Int) := h.2 _ (getD_mem 0 (by rw [h.1]; omega))

theorem f71 (K : Nat) (hK : 10 ≤ K) {b : Bx} (hv : V b) {t : List Int} (ht : num b.1.length t) : implf71 K b t = some (rn b t) := by
  unfold implf71
  have h6 := hv.2.1
  have h22 := hv.2.2.1
  rw [if_pos (by omega), if_pos (by omega)]
  have h := upto (fun k (s : Bx × Int) => impll71_0 K k t b ([], []) s.1 b.1 b.1.length s.2) (fun j => (R b t j, (j : Int))) b.1.length
    (([], []), rn b t, (b.1.length : Int), ()) (fun k j hj => by
      show impll71_0 K (k + 1) t b ([], []) (R b t j) b.1 b.1.length j = impll71_0 K k t b ([], []) (R b t (j + 1)) b.1 b.1.length ((j + 1 : Nat) : Int)
      rw [impll71_0, implb71_0]
      obtain ⟨r1, r2⟩ := R_len b t j
      have hg := hv.2.2.2 j hj
      unfold good at hg
      have e0 : (b.1.getD (j : Int).toNat (List.replicate 2 0)).getD 0 0 = nx b j 0 := rfl
      have e1 : (b.1.getD (j : Int).toNat (List.replicate 2 0)).getD 1 0 = nx b j 1 := rfl
      have e2 : b.2.getD (j : Int).toNat 0 = ot b j := rfl
      have e3 : t.getD (j : Int).toNat 0 = tt t j := rfl
      have hj2 := tt_in ht (s := (j : Int)) (by omega)
      have htl := ht.1
      have c1 : (j : Int) < (b.1.length : Int) := by omega
      have c2 : 0 ≤ (j : Int) ∧ (j : Int) < (b.1.length : Int) := by omega
      have c3 : 0 ≤ (j : Int) ∧ (j : Int) < (t.length : Int) := by omega
      have c4 : 0 ≤ nx b j 0 ∧ nx b j 0 < (t.length : Int) := by omega
      have c5 : 0 ≤ nx b j 1 ∧ nx b j 1 < (t.length : Int) := by omega
      have c6 : 0 ≤ tt t j ∧ tt t j < ((R b t j).1.length : Int) := by omega
      have c7 : 0 ≤ (j : Int) ∧ (j : Int) < (b.2.length : Int) := by omega
      have c8 : 0 ≤ tt t j ∧ tt t j < ((R b t j).2.length : Int) := by omega
      simp only [cdec, e0, e1, e2, e3, if_pos c1, if_pos c2, if_pos c3, if_pos c4, if_pos c5, if_pos c6, if_pos c7, if_pos c8]
      rw [wrapS (by omega)]
      rfl) (fun k => by
      show impll71_0 K (k + 1) t b ([], []) (R b t b.1.length) b.1 b.1.length b.1.length = _
      rw [impll71_0, implb71_0]
      simp only [cdec]
      rw [if_neg (by omega)]
      rfl) K 0 (by omega) (by omega)
  have h : impll71_0 K K t b ([], []) (R b t 0) b.1 b.1.length 0 = _ := h
  show (ob (impll71_0 K K t b ([], []) (R b t 0) b.1 b.1.length 0) _) = _
  rw [h]; rfl

theorem f73 (K : Nat) (hK : 10 ≤ K) {b : Bx} (hv : V b) {t : List Int} (ht : num b.1.length t) : implf73 K b t = some (rn b t) := by
  unfold implf73
  have h6 := hv.2.1
  have h22 := hv.2.2.1
  have htl := ht.1
  rw [if_pos (by omega), if_pos (by omega)]
  have h := upto (fun k (s : Bx × Int) => impll73_0 K k t b ([], []) s.1 s.2) (fun j => (R b t j, (j : Int))) b.1.length
    (([], []), rn b t, (b.1.length : Int), ()) (fun k j hj => by
      show impll73_0 K (k + 1) t b ([], []) (R b t j) j = impll73_0 K k t b ([], []) (R b t (j + 1)) ((j + 1 : Nat) : Int)
      rw [impll73_0, implb73_0]
      obtain ⟨r1, r2⟩ := R_len b t j
      have hg := hv.2.2.2 j hj
      unfold good at hg
      have e0 : (b.1.getD (j : Int).toNat (List.replicate 2 0)).getD 0 0 = nx b j 0 := rfl
      have e1 : (b.1.getD (j : Int).toNat (List.replicate 2 0)).getD 1 0 = nx b j 1 := rfl
      have e2 : b.2.getD (j : Int).toNat 0 = ot b j := rfl
      have e3 : t.getD (j : Int).toNat 0 = tt t j := rfl
      have hj2 := tt_in ht (s := (j : Int)) (by omega)
      have c1 : (j : Int) < (t.length : Int) := by omega
      have c2 : 0 ≤ (j : Int) ∧ (j : Int) < (b.1.length : Int) := by omega
      have c3 : 0 ≤ (j : Int) ∧ (j : Int) < (t.length : Int) := by omega
      have c4 : 0 ≤ nx b j 0 ∧ nx b j 0 < (t.length : Int) := by omega
      have c5 : 0 ≤ nx b j 1 ∧ nx b j 1 < (t.length : Int) := by omega
      have c6 : 0 ≤ tt t j ∧ tt t j < ((R b t j).1.length : Int) := by omega
      have c7 : 0 ≤ (j : Int) ∧ (j : Int) < (b.2.length : Int) := by omega
      have c8 : 0 ≤ tt t j ∧ tt t j < ((R b t j).2.length : Int) := by omega
      simp only [cdec, e0, e1, e2, e3, if_pos c1, if_pos c2, if_pos c3, if_pos c4, if_pos c5, if_pos c6, if_pos c7, if_pos c8]
      rw [wrapS (by omega)]
      rfl) (fun k => by
      show impll73_0 K (k + 1) t b ([], []) (R b t b.1.length) b.1.length = _
      rw [impll73_0, implb73_0]
      simp only [cdec]
      rw [if_neg (by omega)]
      rfl) K 0 (by omega) (by omega)
  have e : List.replicate ((t.length : Nat) : Int).toNat (List.replicate 2 (0 : Int)) = List.replicate b.1.length (List.replicate 2 0) := by rw [htl]; rfl
  have e' : List.replicate ((t.length : Nat) : Int).toNat (0 : Int) = List.replicate b.1.length 0 := by rw [htl]; rfl
  rw [e, e']
  have h : impll73_0 K K t b ([], []) (R b t 0) 0 = _ := h
  show (ob (impll73_0 K K t b ([], []) (R b t 0) 0) _) = _
  rw [h]; rfl

/-- No two states have one number. -/
def inj (n : Nat) (t : List Int) : Prop := ∀ i j : Nat, i < n → j < n → tt t i = tt t j → i = j

theorem R_get {b : Bx} (hv : V b) {t : List Int} (ht : num b.1.length t) (hi : inj b.1.length t) : ∀ {j i : Nat}, j ≤ b.1.length → i < j →
    (R b t j).1.getD (tt t i).toNat (List.replicate 2 0) = rrow b t i ∧ (R b t j).2.getD (tt t i).toNat 0 = ot b i
  | 0, i, _, h => by omega
  | j + 1, i, hj, h => by
    obtain ⟨r1, r2⟩ := R_len b t j
    have hti := tt_in ht (s := (i : Int)) (by omega)
    have htj := tt_in ht (s := (j : Int)) (by omega)
    by_cases hij : i = j
    · subst hij
      constructor
      · show ((R b t i).1.set (tt t i).toNat (rrow b t i)).getD (tt t i).toNat _ = _
        rw [List.getD_eq_getElem?_getD, List.getElem?_set_self (by omega)]; rfl
      · show ((R b t i).2.set (tt t i).toNat (ot b i)).getD (tt t i).toNat _ = _
        rw [List.getD_eq_getElem?_getD, List.getElem?_set_self (by omega)]; rfl
    · have ih := R_get hv ht hi (j := j) (i := i) (by omega) (by omega)
      have hne : (tt t j).toNat ≠ (tt t i).toNat := fun h => hij (hi i j (by omega) (by omega) (by omega))
      constructor
      · show ((R b t j).1.set (tt t j).toNat (rrow b t j)).getD (tt t i).toNat _ = _
        rw [List.getD_eq_getElem?_getD, List.getElem?_set_ne hne, ← List.getD_eq_getElem?_getD]; exact ih.1
      · show ((R b t j).2.set (tt t j).toNat (ot b j)).getD (tt t i).toNat _ = _
        rw [List.getD_eq_getElem?_getD, List.getElem?_set_ne hne, ← List.getD_eq_getElem?_getD]; exact ih.2

theorem rn_nx {b : Bx} (hv : V b) {t : List Int} (ht : num b.1.length t) (hi : inj b.1.length t) {s x : Int} (hs : inB b s) (hx : 0 ≤ x ∧ x ≤ 1) : nx (rn b t) (tt t s) x = tt t (nx b s x) := by
  have e : ((s.toNat : Nat) : Int) = s := by have := hs.1; omega
  have h := (R_get hv ht hi (Nat.le_refl _) (i := s.toNat) (by have := hs.1; have := hs.2; omega)).1
  rw [e] at h
  unfold nx rn
  rw [h]
  unfold rrow
  rw [e]
  have : x = 0 ∨ x = 1 := by omega
  rcases this with rfl | rfl <;> rfl

theorem rn_ot {b : Bx} (hv : V b) {t : List Int} (ht : num b.1.length t) (hi : inj b.1.length t) {s : Int} (hs : inB b s) : ot (rn b t) (tt t s) = ot b s := by
  have e : ((s.toNat : Nat) : Int) = s := by have := hs.1; omega
  have h := (R_get hv ht hi (Nat.le_refl _) (i := s.toNat) (by have := hs.1; have := hs.2; omega)).2
  rw [e] at h
  exact h

theorem rn_len (b : Bx) (t : List Int) : (rn b t).1.length = b.1.length ∧ (rn b t).2.length = b.1.length := R_len b t _

/-! ### The box that begins in another state -/
def ids (n : Nat) : List Int := (List.range n).map fun (i : Nat) => (i : Int)
def sw (n : Nat) (s : Int) : List Int := ((ids n).set 0 s).set s.toNat 0

noncomputable def fr (b : Bx) (s : Int) : Bx × Int := if V b then (if 0 ≤ s ∧ s ≤ (b.1.length : Int) - 1 then (rn b (sw b.1.length s), 0) else (([], []), 4)) else (([], []), 1)

theorem sw_tt {n : Nat} {s i : Int} (hs : 0 ≤ s ∧ s < (n : Int)) (hi : 0 ≤ i ∧ i < (n : Int)) : tt (sw n s) i = if i = s then 0 else if i = 0 then s else i := by
  unfold tt sw
  have hl : (ids n).length = n := by simp [ids]
  by_cases h1 : i = s
  · subst h1
    rw [if_pos rfl, List.getD_eq_getElem?_getD, List.getElem?_set_self (by simp [hl]; omega)]; rfl
  · rw [if_neg h1, List.getD_eq_getElem?_getD, List.getElem?_set_ne (by omega)]
    by_cases h2 : i = 0
    · subst h2
      rw [if_pos rfl]
      show (((ids n).set 0 s)[0]?).getD 0 = s
      rw [List.getElem?_set_self (by omega)]; rfl
    · rw [if_neg h2, List.getElem?_set_ne (by omega)]
      unfold ids
      rw [List.getElem?_map, List.getElem?_range (by omega)]
      show ((i.toNat : Nat) : Int) = i
      omega

theorem sw_num {n : Nat} {s : Int} (hs : 0 ≤ s ∧ s < (n : Int)) : num n (sw n s) := by
  have hl : (sw n s).length = n := by simp [sw, ids]
  refine ⟨hl, fun x hx => ?_⟩
  obtain ⟨i, hi, rfl⟩ := List.mem_iff_getElem.1 hx
  have h := sw_tt (n := n) hs (i := (i : Int)) (by omega)
  have e : tt (sw n s) i = (sw n s)[i] := by
    show (sw n s).getD i 0 = _
    simp [List.getD, hi]
  rw [← e, h]
  split
  · omega
  · split <;> omega

theorem sw_sw {n : Nat} {s i : Int} (hs : 0 ≤ s ∧ s < (n : Int)) (hi : 0 ≤ i ∧ i < (n : Int)) : tt (sw n s) (tt (sw n s) i) = i := by
  have h1 := sw_tt hs hi
  have h2 := tt_in (sw_num hs) hi
  rw [sw_tt hs h2, h1]
  by_cases a : i = s
  · subst a
    rw [if_pos rfl]
    by_cases z : 0 = i
    · rw [if_pos z]; omega
    · rw [if_neg z, if_pos rfl]
  · rw [if_neg a]
    by_cases z : i = 0
    · rw [if_pos z, if_pos rfl]; omega
    · rw [if_neg z, if_neg a, if_neg z]

theorem sw_inj {n : Nat} {s : Int} (hs : 0 ≤ s ∧ s < (n : Int)) : inj n (sw n s) := by
  intro i j hi hj h
  have h1 := sw_sw hs (i := (i : Int)) (by omega)
  have h2 := sw_sw hs (i := (j : Int)) (by omega)
  rw [h, h2] at h1
  omega

theorem f70 (K : Nat) (hK : 10 ≤ K) (b : Bx) (s : Int) : implf70 K b [s] = some (if V b then (if 0 ≤ s ∧ s ≤ (b.1.length : Int) - 1 then 0 else 4) else 1) := by
  unfold implf70
  rw [f30 K (by omega)]
  simp only [obS, ibne, cnot, cdec]
  by_cases hv : V b
  · have h6 := hv.2.1
    simp only [if_pos hv, if_true]
    have w1 : IntKind.i64.wrap ((b.1.length : Int) - 1) = (b.1.length : Int) - 1 := wrapI (by omega) (by omega)
    obtain ⟨K, rfl⟩ : ∃ K', K = K' + 2 := ⟨K - 2, by omega⟩
    have e : ∀ K0 k, impll70_0 K0 (k + 2) b [s] (([s].length : Nat) : Int) 0 = some (if 0 ≤ s ∧ s ≤ (b.1.length : Int) - 1 then .inl (1, ()) else .inr 4) := by
      intro K0 k
      rw [impll70_0, implb70_0]
      simp only [cdec, cnot, w61, obS, w1]
      rw [if_pos (by simp), if_pos (by simp)]
      have eg : [s].getD (0 : Int).toNat 0 = s := rfl
      rw [eg]
      by_cases h : 0 ≤ s ∧ s ≤ (b.1.length : Int) - 1
      · rw [if_pos h, if_pos h]
        have : IntKind.i64.wrap ((0 : Int) + 1) = 1 := wrapI (by omega) (by omega)
        rw [this, impll70_0, implb70_0]
        simp only [cdec]
        rw [if_neg (by simp)]
      · rw [if_neg h, if_neg h]
    rw [e]
    by_cases h : 0 ≤ s ∧ s ≤ (b.1.length : Int) - 1
    · rw [if_pos h, if_pos h]; rfl
    · rw [if_neg h, if_neg h]; rfl
  · simp only [if_neg hv]
    rw [if_neg (by omega)]

theorem f72 (K : Nat) (hK : 10 ≤ K) (b : Bx) (s : Int) : implf72 K b s = some (if V b then (if 0 ≤ s ∧ s ≤ (b.1.length : Int) - 1 then 0 else 4) else 1) := by
  unfold implf72
  rw [f31 K (by omega)]
  simp only [obS, ibne, cnot, cdec, w62]
  by_cases hv : V b
  · have h6 := hv.2.1
    have h22 := hv.2.2.1
    simp only [if_pos hv, if_true]
    have w1 : IntKind.i64.wrap ((b.2.length : Int) - 1) = (b.1.length : Int) - 1 := by rw [wrapI (by omega) (by omega)]; omega
    rw [w1]
    by_cases h : 0 ≤ s ∧ s ≤ (b.1.length : Int) - 1
    · rw [if_pos h, if_pos h]
    · rw [if_neg h, if_neg h]
  · simp only [if_neg hv]
    rw [if_neg (by omega)]

def fill (n j : Nat) : List Int := (List.range n).map fun (i : Nat) => if i < j then (i : Int) else 0

theorem fill_succ {n j : Nat} (hj : j < n) : (fill n j).set j (j : Int) = fill n (j + 1) := by
  unfold fill
  apply List.ext_getElem
  · simp
  · intro i h1 h2
    simp only [List.length_set, List.length_map, List.length_range] at h1
    rw [List.getElem_set]
    simp only [List.getElem_map, List.getElem_range]
    by_cases h : j = i
    · subst h; simp
    · rw [if_neg h]
      by_cases h3 : i < j
      · rw [if_pos h3, if_pos (by omega)]
      · rw [if_neg h3, if_neg (by omega)]

theorem f39 (K : Nat) (hK : 10 ≤ K) (b : Bx) (s : Int) : implf39 K b s = some (fr b s) := by
  unfold implf39 fr
  have e : (List.replicate 1 (0 : Int)).set 0 s = [s] := rfl
  rw [e, f70 K hK]
  simp only [obS, ibne, cnot, cdec]
  by_cases hv : V b
  · have h1 := hv.1
    have h6 := hv.2.1
    simp only [if_pos hv]
    by_cases h : 0 ≤ s ∧ s ≤ (b.1.length : Int) - 1
    · simp only [if_pos h]
      rw [if_pos trivial, if_pos (by omega)]
      have hl := upto (fun k (t : List Int × Int) => impll39_0 K k s b ([], []) t.1 b.1.length t.2) (fun j => (fill b.1.length j, (j : Int))) b.1.length
        (([], []), ids b.1.length, (b.1.length : Int), ()) (fun k j hj => by
          show impll39_0 K (k + 1) s b ([], []) (fill b.1.length j) b.1.length j = impll39_0 K k s b ([], []) (fill b.1.length (j + 1)) b.1.length ((j + 1 : Nat) : Int)
          rw [impll39_0, implb39_0]
          simp only [cdec]
          rw [if_pos (by omega), if_pos (by simp [fill]; omega), wrapS (by omega), ← fill_succ hj]
          rfl) (fun k => by
          show impll39_0 K (k + 1) s b ([], []) (fill b.1.length b.1.length) b.1.length b.1.length = _
          rw [impll39_0, implb39_0]
          simp only [cdec]
          rw [if_neg (by omega)]
          have : fill b.1.length b.1.length = ids b.1.length := by
            unfold fill ids
            refine List.map_congr_left fun i hi => ?_
            rw [if_pos (List.mem_range.1 hi)]
          rw [this]) K 0 (by omega) (by omega)
      have e0 : List.replicate ((b.1.length : Nat) : Int).toNat (0 : Int) = fill b.1.length 0 := by
        unfold fill
        apply List.ext_getElem
        · simp
        · intro i h1 h2; simp
      have e1 : (Int.ofNat (List.replicate ((b.1.length : Nat) : Int).toNat (0 : Int)).length) = (b.1.length : Int) := by simp
      rw [e1, e0]
      have hl : impll39_0 K K s b ([], []) (fill b.1.length 0) b.1.length 0 = _ := hl
      rw [hl]
      have hil : (ids b.1.length).length = b.1.length := by simp [ids]
      simp only [obS]
      rw [if_pos (by omega), if_pos (by simp [hil]; omega)]
      have hf := f71 K hK hv (sw_num (n := b.1.length) (s := s) (by omega))
      show (ob (implf71 K b (sw b.1.length s)) _) = _
      rw [hf]; rfl
    · simp only [if_neg h]
      rw [if_neg (by omega)]
  · simp only [if_neg hv]
    rw [if_neg (by omega)]

theorem f40 (K : Nat) (hK : 10 ≤ K) (b : Bx) (s : Int) : implf40 K b s = some (fr b s) := by
  unfold implf40 fr
  rw [f72 K hK]
  simp only [obS, ibne, cnot, cdec]
  by_cases hv : V b
  · have h1 := hv.1
    have h6 := hv.2.1
    have h22 := hv.2.2.1
    simp only [if_pos hv]
    by_cases h : 0 ≤ s ∧ s ≤ (b.1.length : Int) - 1
    · simp only [if_pos h]
      rw [if_pos trivial]
      have hl := upto (fun k (t : List Int × Int) => impll40_0 K k s b ([], []) t.1 t.2) (fun j => (ids j, (j : Int))) b.1.length
        (([], []), ids b.1.length, (b.1.length : Int), ()) (fun k j hj => by
          show impll40_0 K (k + 1) s b ([], []) (ids j) j = impll40_0 K k s b ([], []) (ids (j + 1)) ((j + 1 : Nat) : Int)
          rw [impll40_0, implb40_0]
          simp only [cdec]
          have e : ids (j + 1) = ids j ++ [(j : Int)] := by unfold ids; rw [List.range_succ, List.map_append]; rfl
          rw [if_pos (by omega), if_pos (by simp [ids]; omega), wrapS (by omega), e]
          rfl) (fun k => by
          show impll40_0 K (k + 1) s b ([], []) (ids b.1.length) b.1.length = _
          rw [impll40_0, implb40_0]
          simp only [cdec]
          rw [if_neg (by omega)]) K 0 (by omega) (by omega)
      have hl : impll40_0 K K s b ([], []) [] 0 = _ := hl
      rw [hl]
      have hil : (ids b.1.length).length = b.1.length := by simp [ids]
      simp only [obS]
      rw [if_pos (by omega), if_pos (by simp [hil]; omega)]
      have hf := f73 K hK hv (sw_num (n := b.1.length) (s := s) (by omega))
      show (ob (implf73 K b (sw b.1.length s)) _) = _
      rw [hf]; rfl
    · simp only [if_neg h]
      rw [if_neg (by omega)]
  · simp only [if_neg hv]
    rw [if_neg (by omega)]

theorem v_rn {b : Bx} (hv : V b) {t : List Int} (ht : num b.1.length t) (hi : inj b.1.length t) (hsur : ∀ i : Nat, i < b.1.length → ∃ s, inB b s ∧ tt t s = i) : V (rn b t) := by
  obtain ⟨r1, r2⟩ := rn_len b t
  refine ⟨by rw [r1]; exact hv.1, by rw [r1]; exact hv.2.1, by rw [r1, r2], fun j hj => ?_⟩
  rw [r1] at hj
  obtain ⟨s, hs, hts⟩ := hsur j hj
  have h0 := rn_nx hv ht hi hs (x := 0) (by omega)
  have h1 := rn_nx hv ht hi hs (x := 1) (by omega)
  have h2 := rn_ot hv ht hi hs
  rw [hts] at h0 h1 h2
  unfold good
  rw [h0, h1, h2, r1]
  have g0 := tt_in ht (nx_in hv hs (x := 0) (by omega))
  have g1 := tt_in ht (nx_in hv hs (x := 1) (by omega))
  have g2 := ot_in hv hs
  omega

end Go.Proofs.Ythdmngalhppkcaa
