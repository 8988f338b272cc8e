/- The boxes: what the small functions answer. -/
import Derived.Test.YthdmngalhppkcaaF4
set_option linter.unusedVariables false
set_option linter.unusedSimpArgs false
namespace Go.Proofs.Ythdmngalhppkcaa
open Go Go.Pv Classical

abbrev Bx := List (List Int) × List Int
def nx (b : Bx) (i x : Int) : Int := (b.1.getD i.toNat (List.replicate 2 0)).getD x.toNat 0
def ot (b : Bx) (i : Int) : Int := b.2.getD i.toNat 0

/-- State j is right. -/
def good (b : Bx) (j : Nat) : Prop := (0 ≤ nx b j 0 ∧ nx b j 0 ≤ (b.1.length : Int) - 1) ∧ (0 ≤ nx b j 1 ∧ nx b j 1 ≤ (b.1.length : Int) - 1) ∧ (0 ≤ ot b j ∧ ot b j ≤ 3)
/-- The box is right. -/
def V (b : Bx) : Prop := 1 ≤ b.1.length ∧ b.1.length ≤ 6 ∧ b.2.length = b.1.length ∧ ∀ j, j < b.1.length → good b j

theorem w61 (K : Nat) (x lo hi : Int) : implf61 K x lo hi = some (decide (lo ≤ x ∧ x ≤ hi)) := by
  unfold implf61
  by_cases h : lo ≤ x <;> simp [h]
theorem w62 (K : Nat) (x lo hi : Int) : implf62 K x lo hi = some (decide (lo ≤ x ∧ x ≤ hi)) := by
  unfold implf62
  by_cases h : lo ≤ x <;> simp [h]

theorem l30 (K : Nat) (b : Bx) (h6 : b.1.length ≤ 6) (hl : b.2.length = b.1.length) : ∀ (k j : Nat), b.1.length - j < k → j ≤ b.1.length →
    impll30_0 K k b b.1 b.1.length j = if (∀ i, j ≤ i → i < b.1.length → good b i) then some (.inl ((b.1.length : Int), ())) else some (.inr 1)
  | 0, j, hk, hj => by omega
  | k + 1, j, hk, hj => by
    rw [impll30_0, implb30_0]
    simp only [w61, obS, cdec, cnot]
    by_cases hlt : j < b.1.length
    · have ih := l30 K b h6 hl k (j + 1) (by omega) (by omega)
      rw [wrapS (by omega), ih]
      have w1 : IntKind.i64.wrap ((b.1.length : Int) - 1) = (b.1.length : Int) - 1 := wrapI (by omega) (by omega)
      rw [w1, if_pos (by omega), if_pos (by omega), if_pos (c := 0 ≤ (j : Int) ∧ (j : Int) < (b.2.length : Int)) (by omega)]
      have e0 : (b.1.getD (j : Int).toNat (List.replicate 2 0)).getD 0 0 = nx b j 0 := rfl
      have e1 : (b.1.getD (j : Int).toNat (List.replicate 2 0)).getD 1 0 = nx b j 1 := rfl
      have e2 : b.2.getD (j : Int).toNat 0 = ot b j := rfl
      rw [e0, e1, e2]
      have hs : (∀ i, j ≤ i → i < b.1.length → good b i) ↔ good b j ∧ ∀ i, j + 1 ≤ i → i < b.1.length → good b i := by
        constructor
        · exact fun h => ⟨h j (Nat.le_refl _) hlt, fun i h1 h2 => h i (by omega) h2⟩
        · rintro ⟨h1, h2⟩ i h3 h4
          rcases Nat.lt_or_ge j i with h | h
          · exact h2 i h h4
          · have : i = j := by omega
            subst this; exact h1
      by_cases g1 : 0 ≤ nx b j 0 ∧ nx b j 0 ≤ (b.1.length : Int) - 1
      · rw [if_pos g1]
        by_cases g2 : 0 ≤ nx b j 1 ∧ nx b j 1 ≤ (b.1.length : Int) - 1
        · rw [if_pos g2]
          by_cases g3 : 0 ≤ ot b j ∧ ot b j ≤ 3
          · rw [if_pos g3]
            have hg : good b j := ⟨g1, g2, g3⟩
            by_cases hr : ∀ i, j + 1 ≤ i → i < b.1.length → good b i
            · rw [if_pos hr, if_pos (hs.2 ⟨hg, hr⟩)]
            · rw [if_neg hr, if_neg (fun h => hr (hs.1 h).2)]
          · rw [if_neg g3, if_neg (fun h => g3 (hs.1 h).1.2.2)]
        · rw [if_neg g2, if_neg (fun h => g2 (hs.1 h).1.2.1)]
      · rw [if_neg g1, if_neg (fun h => g1 (hs.1 h).1.1)]
    · have hj' : j = b.1.length := by omega
      subst hj'
      rw [if_neg (by omega), if_pos (fun i h1 h2 => absurd h2 (by omega))]

theorem f30 (K : Nat) (hK : 10 ≤ K) (b : Bx) : implf30 K b = some (if V b then 0 else 1) := by
  unfold implf30
  simp only [w61, obS, cnot, cdec, ibne]
  by_cases h1 : (1 : Int) ≤ (b.1.length : Int) ∧ (b.1.length : Int) ≤ 6
  · rw [if_pos h1]
    by_cases h2 : b.2.length = b.1.length
    · rw [if_pos (by omega)]
      have := l30 K b (by omega) h2 K 0 (by omega) (by omega)
      simp only [Int.natCast_zero] at this
      rw [this]
      by_cases h3 : ∀ i, 0 ≤ i → i < b.1.length → good b i
      · rw [if_pos h3, if_pos (show V b from ⟨by omega, by omega, h2, fun j hj => h3 j (Nat.zero_le _) hj⟩)]
        rfl
      · rw [if_neg h3, if_neg (fun hv : V b => h3 fun i _ hi => hv.2.2.2 i hi)]
        rfl
    · rw [if_neg (by omega), if_neg (fun hv : V b => h2 hv.2.2.1)]
  · rw [if_neg h1, if_neg (fun hv : V b => h1 ⟨by have := hv.1; omega, by have := hv.2.1; omega⟩)]

theorem l31 (K : Nat) (b : Bx) (h6 : b.1.length ≤ 6) (hl : b.2.length = b.1.length) : ∀ (k j : Nat), b.1.length - j < k → j ≤ b.1.length →
    impll31_0 K k b b.1.length j = if (∀ i, j ≤ i → i < b.1.length → good b i) then some (.inl ((b.1.length : Int), ())) else some (.inr 1)
  | 0, j, hk, hj => by omega
  | k + 1, j, hk, hj => by
    rw [impll31_0, implb31_0]
    simp only [w62, obS, cdec, cnot]
    by_cases hlt : j < b.1.length
    · have ih := l31 K b h6 hl k (j + 1) (by omega) (by omega)
      rw [wrapS (by omega), ih]
      have w1 : IntKind.i64.wrap ((b.1.length : Int) - 1) = (b.1.length : Int) - 1 := wrapI (by omega) (by omega)
      have c1 : (j : Int) < (b.1.length : Int) := by omega
      have c2 : 0 ≤ (j : Int) ∧ (j : Int) < (b.2.length : Int) := by omega
      have c3 : 0 ≤ (j : Int) ∧ (j : Int) < (b.1.length : Int) := by omega
      simp only [w1, if_pos c1, if_pos c2, if_pos c3]
      have e0 : (b.1.getD (j : Int).toNat (List.replicate 2 0)).getD 0 0 = nx b j 0 := rfl
      have e1 : (b.1.getD (j : Int).toNat (List.replicate 2 0)).getD 1 0 = nx b j 1 := rfl
      have e2 : b.2.getD (j : Int).toNat 0 = ot b j := rfl
      rw [e0, e1, e2]
      have hs : (∀ i, j ≤ i → i < b.1.length → good b i) ↔ good b j ∧ ∀ i, j + 1 ≤ i → i < b.1.length → good b i := by
        constructor
        · exact fun h => ⟨h j (Nat.le_refl _) hlt, fun i h1 h2 => h i (by omega) h2⟩
        · rintro ⟨h1, h2⟩ i h3 h4
          rcases Nat.lt_or_ge j i with h | h
          · exact h2 i h h4
          · have : i = j := by omega
            subst this; exact h1
      by_cases g1 : 0 ≤ nx b j 0 ∧ nx b j 0 ≤ (b.1.length : Int) - 1
      · by_cases g2 : 0 ≤ nx b j 1 ∧ nx b j 1 ≤ (b.1.length : Int) - 1
        · by_cases g3 : 0 ≤ ot b j ∧ ot b j ≤ 3
          · rw [if_pos g3, if_pos g1, if_pos g2]
            have hg : good b j := ⟨g1, g2, g3⟩
            by_cases hr : ∀ i, j + 1 ≤ i → i < b.1.length → good b i
            · rw [if_pos hr, if_pos (hs.2 ⟨hg, hr⟩)]
            · rw [if_neg hr, if_neg (fun h => hr (hs.1 h).2)]
          · rw [if_neg g3, if_neg (fun h => g3 (hs.1 h).1.2.2)]
        · rw [if_neg g2, if_neg (fun h => g2 (hs.1 h).1.2.1)]
          split <;> first | rfl | (split <;> rfl)
      · rw [if_neg g1, if_neg (fun h => g1 (hs.1 h).1.1)]
        split <;> rfl
    · have hj' : j = b.1.length := by omega
      subst hj'
      rw [if_neg (by omega), if_pos (fun i h1 h2 => absurd h2 (by omega))]

theorem f31 (K : Nat) (hK : 10 ≤ K) (b : Bx) : implf31 K b = some (if V b then 0 else 1) := by
  unfold implf31
  simp only [w62, obS, cnot, cdec, ibne]
  by_cases h2 : b.2.length = b.1.length
  · rw [h2]
    by_cases h1 : (1 : Int) ≤ (b.1.length : Int) ∧ (b.1.length : Int) ≤ 6
    · rw [if_pos h1, if_pos rfl]
      have := l31 K b (by omega) h2 K 0 (by omega) (by omega)
      simp only [Int.natCast_zero] at this
      rw [this]
      by_cases h3 : ∀ i, 0 ≤ i → i < b.1.length → good b i
      · rw [if_pos h3, if_pos (show V b from ⟨by omega, by omega, h2, fun j hj => h3 j (Nat.zero_le _) hj⟩)]
        rfl
      · rw [if_neg h3, if_neg (fun hv : V b => h3 fun i _ hi => hv.2.2.2 i hi)]
        rfl
    · rw [if_neg h1, if_neg (fun hv : V b => h1 ⟨by have := hv.1; omega, by have := hv.2.1; omega⟩)]
  · rw [if_neg (fun hv : V b => h2 hv.2.2.1)]
    by_cases h1 : (1 : Int) ≤ (b.2.length : Int) ∧ (b.2.length : Int) ≤ 6
    · rw [if_pos h1, if_neg (by omega)]
    · rw [if_neg h1]

def wok (w : List Int) : Prop := ∀ x ∈ w, 0 ≤ x ∧ x ≤ 1
/-- The error of a box and a word. -/
noncomputable def wc (b : Bx) (w : List Int) : Int := if V b then (if 40 < w.length then 3 else if wok w then 0 else 1) else 1

theorem drop_cons {w : List Int} {j : Nat} (h : j < w.length) : w.drop j = w.getD j 0 :: w.drop (j + 1) := by
  rw [List.drop_eq_getElem_cons h]
  simp [List.getD, h]

theorem l87b (K : Nat) (w : List Int) (hw : w.length ≤ 1000000) : ∀ (k j : Nat), w.length - j < k → j ≤ w.length →
    ∃ r, impll87b_0 K k w () w.length j = some r ∧ ((wok (w.drop j) ∧ r = .inl ((w.length : Int), ())) ∨ (¬ wok (w.drop j) ∧ ∃ m : Nat, r = .inr (m : Int)))
  | 0, j, hk, hj => by omega
  | k + 1, j, hk, hj => by
    rw [impll87b_0, implb87b_0]
    simp only [w61, obS, cdec, cnot]
    by_cases hlt : j < w.length
    · rw [if_pos (by omega), if_pos (by omega), wrapS (by omega)]
      have e : w.getD (j : Int).toNat 0 = w.getD j 0 := rfl
      rw [e]
      have hd := drop_cons hlt
      by_cases g : 0 ≤ w.getD j 0 ∧ w.getD j 0 ≤ 1
      · rw [if_pos g]
        obtain ⟨r, h1, h2⟩ := l87b K w hw k (j + 1) (by omega) (by omega)
        refine ⟨r, h1, ?_⟩
        rw [hd]
        rcases h2 with ⟨h2, h3⟩ | ⟨h2, h3⟩
        · exact .inl ⟨fun x hx => (List.mem_cons.1 hx).elim (fun e => by rw [e]; exact g) (h2 x), h3⟩
        · exact .inr ⟨fun h => h2 fun x hx => h x (List.mem_cons_of_mem _ hx), h3⟩
      · rw [if_neg g]
        refine ⟨_, rfl, .inr ⟨fun h => g (h _ (by rw [hd]; exact List.mem_cons_self)), j, rfl⟩⟩
    · rw [if_neg (by omega)]
      have : j = w.length := by omega
      subst this
      exact ⟨_, rfl, .inl ⟨fun x hx => by simp at hx, rfl⟩⟩

theorem f63 (K : Nat) (hK : 50 ≤ K) (b : Bx) (w : List Int) : implf63 K b w = some (wc b w) := by
  unfold implf63 wc
  rw [f30 K (by omega) b]
  simp only [obS, ibne, cnot, cdec]
  by_cases hv : V b
  · rw [if_pos hv, if_pos hv, if_pos rfl]
    by_cases hl : 40 < w.length
    · rw [if_pos hl, if_pos (by omega)]
    · rw [if_neg hl, if_neg (by omega)]
      obtain ⟨r, h1, h2⟩ := l87b K w (by omega) K 0 (by omega) (by omega)
      simp only [Int.natCast_zero] at h1
      unfold implf87b
      rw [h1]
      rcases h2 with ⟨h2, h3⟩ | ⟨h2, m, h3⟩
      · subst h3
        have h2 : wok w := by simpa using h2
        rw [if_pos h2]
        simp [obS]
      · subst h3
        have h2 : ¬ wok w := by simpa using h2
        rw [if_neg h2]
        simp [obS]
  · rw [if_neg hv, if_neg hv, if_neg (by omega)]

/-- The state behind a word. -/
def en (b : Bx) (s : Int) (w : List Int) : Int := w.foldl (fun s x => nx b s x) s
/-- The answer. -/
def ans (b : Bx) (w : List Int) : List Int := (List.range (w.length + 1)).map fun i => ot b (en b 0 (w.take i))

@[reducible] def inB (b : Bx) (s : Int) : Prop := 0 ≤ s ∧ s < (b.1.length : Int)

theorem nx_in {b : Bx} (hv : V b) {s x : Int} (hs : inB b s) (hx : 0 ≤ x ∧ x ≤ 1) : inB b (nx b s x) := by
  have h := hv.2.2.2 s.toNat (by have := hs.1; have := hs.2; omega)
  have e : ((s.toNat : Nat) : Int) = s := by have := hs.1; omega
  unfold good at h
  rw [e] at h
  have : x = 0 ∨ x = 1 := by omega
  rcases this with rfl | rfl
  · exact ⟨h.1.1, by omega⟩
  · exact ⟨h.2.1.1, by omega⟩

theorem ot_in {b : Bx} (hv : V b) {s : Int} (hs : inB b s) : 0 ≤ ot b s ∧ ot b s ≤ 3 := by
  have h := hv.2.2.2 s.toNat (by have := hs.1; have := hs.2; omega)
  have e : ((s.toNat : Nat) : Int) = s := by have := hs.1; omega
  unfold good at h
  rw [e] at h
  exact h.2.2

theorem en_in {b : Bx} (hv : V b) : ∀ {w : List Int} {s : Int}, inB b s → wok w → inB b (en b s w)
  | [], s, hs, _ => hs
  | x :: w, s, hs, hw => en_in hv (w := w) (nx_in hv hs (hw x (by simp))) fun y hy => hw y (by simp [hy])

theorem zero_in {b : Bx} (hv : V b) : inB b 0 := ⟨Int.le_refl _, by have := hv.1; omega⟩
theorem wok_take {w : List Int} (h : wok w) (n : Nat) : wok (w.take n) := fun x hx => h x (List.mem_of_mem_take hx)
theorem wok_get {w : List Int} (h : wok w) {j : Nat} (hj : j < w.length) : 0 ≤ w.getD j 0 ∧ w.getD j 0 ≤ 1 := by
  have : w.getD j 0 = w[j] := by simp [List.getD, hj]
  rw [this]; exact h _ (List.getElem_mem hj)
theorem take_succ {w : List Int} {j : Nat} (hj : j < w.length) : w.take (j + 1) = w.take j ++ [w.getD j 0] := by
  rw [List.take_succ_eq_append_getElem hj]
  simp [List.getD, hj]
theorem en_snoc (b : Bx) (s : Int) (w : List Int) (x : Int) : en b s (w ++ [x]) = nx b (en b s w) x := by simp [en]

theorem l65 (K : Nat) {b : Bx} (hv : V b) {w : List Int} (hw : wok w) (hl : w.length ≤ 1000000) {s : Int} (hs : inB b s) : ∀ (k j : Nat), w.length - j < k → j ≤ w.length →
    impll65_0 K k (en b s (w.take j)) w b j = some (en b s w, (w.length : Int), ())
  | 0, j, hk, hj => by omega
  | k + 1, j, hk, hj => by
    rw [impll65_0, implb65_0]
    simp only [cdec]
    by_cases hlt : j < w.length
    · have hx := wok_get hw hlt
      have hi := en_in hv hs (wok_take hw j)
      have e : w.getD (j : Int).toNat 0 = w.getD j 0 := rfl
      rw [if_pos (by omega), if_pos (by omega), if_pos hi, e, if_pos (by omega), wrapS (by omega)]
      have ih := l65 K hv hw hl hs k (j + 1) (by omega) (by omega)
      rw [take_succ hlt, en_snoc] at ih
      exact ih
    · have : j = w.length := by omega
      subst this
      rw [if_neg (by omega), List.take_of_length_le (Nat.le_refl _)]

theorem f65 (K : Nat) {b : Bx} (hv : V b) {w : List Int} (hw : wok w) {s : Int} (hs : inB b s) (hK : w.length < K) (hl : w.length ≤ 1000000) : implf65 K b s w = some (en b s w) := by
  unfold implf65
  have h := l65 K hv hw hl hs K 0 (by omega) (by omega)
  simp only [Int.natCast_zero, List.take_zero] at h
  have e : en b s [] = s := rfl
  rw [e] at h
  rw [h]; rfl

theorem wc_zero {b : Bx} {w : List Int} (h : wc b w = 0) : V b ∧ w.length ≤ 40 ∧ wok w := by
  unfold wc at h
  by_cases hv : V b
  · rw [if_pos hv] at h
    by_cases hl : 40 < w.length
    · rw [if_pos hl] at h; omega
    · rw [if_neg hl] at h
      by_cases hw : wok w
      · exact ⟨hv, by omega, hw⟩
      · rw [if_neg hw] at h; omega
  · rw [if_neg hv] at h; omega
theorem l28 (K : Nat) {b : Bx} (hv : V b) {w : List Int} (hw : wok w) (hl : w.length ≤ 1000000) : ∀ (k j : Nat), w.length - j < k → j ≤ w.length →
    impll28_0 K k b (en b 0 (w.take j)) w w.length j = some (en b 0 w, (w.length : Int), ())
  | 0, j, hk, hj => by omega
  | k + 1, j, hk, hj => by
    rw [impll28_0, implb28_0]
    simp only [cdec]
    by_cases hlt : j < w.length
    · have hx := wok_get hw hlt
      have hi := en_in hv (zero_in hv) (wok_take hw j)
      have e : w.getD (j : Int).toNat 0 = w.getD j 0 := rfl
      rw [if_pos (by omega), if_pos (by omega), if_pos hi, e, if_pos (by omega), wrapS (by omega)]
      have ih := l28 K hv hw hl k (j + 1) (by omega) (by omega)
      rw [take_succ hlt, en_snoc] at ih
      exact ih
    · have : j = w.length := by omega
      subst this
      rw [if_neg (by omega), List.take_of_length_le (Nat.le_refl _)]

theorem f28 (K : Nat) (hK : 50 ≤ K) (b : Bx) (w : List Int) : implf28 K b w = some (if wc b w = 0 then (en b 0 w, 0) else (0, wc b w)) := by
  unfold implf28
  rw [f63 K hK]
  simp only [obS, ibne, cnot, cdec]
  by_cases h : wc b w = 0
  · obtain ⟨hv, hl, hw⟩ := wc_zero h
    rw [if_pos h, if_pos h]
    have h := l28 K hv hw (by omega) K 0 (by omega) (by omega)
    simp only [Int.natCast_zero, List.take_zero] at h
    have e : en b 0 [] = 0 := rfl
    rw [e] at h
    rw [h]; rfl
  · rw [if_neg h, if_neg h]

theorem l26 (K : Nat) {b : Bx} (hv : V b) {w : List Int} (hw : wok w) (hl : w.length ≤ 1000000) : ∀ (k j : Nat), w.length - j < k → j ≤ w.length →
    impll26_0 K k b (en b 0 (w.take j)) ((List.range (j + 1)).map fun i => ot b (en b 0 (w.take i))) w w.length j = some (en b 0 w, ans b w, (w.length : Int), ())
  | 0, j, hk, hj => by omega
  | k + 1, j, hk, hj => by
    rw [impll26_0, implb26_0]
    simp only [cdec]
    by_cases hlt : j < w.length
    · have hx := wok_get hw hlt
      have hi := en_in hv (zero_in hv) (wok_take hw j)
      have e : w.getD (j : Int).toNat 0 = w.getD j 0 := rfl
      have hn : inB b (nx b (en b 0 (w.take j)) (w.getD j 0)) := nx_in hv hi hx
      have e2 : (b.1.getD (en b 0 (w.take j)).toNat (List.replicate 2 0)).getD (w.getD j 0).toNat 0 = nx b (en b 0 (w.take j)) (w.getD j 0) := rfl
      rw [if_pos (by omega), if_pos (by omega), if_pos hi, e, if_pos (by omega), e2, if_pos (by rw [hv.2.2.1]; exact hn), wrapS (by omega), if_pos (by simp; omega)]
      have ih := l26 K hv hw hl k (j + 1) (by omega) (by omega)
      rw [List.range_succ, List.map_append, take_succ hlt, en_snoc] at ih
      have e3 : [j + 1].map (fun i => ot b (en b 0 (w.take i))) = (List.replicate 1 0).set 0 (b.2.getD (nx b (en b 0 (w.take j)) (w.getD j 0)).toNat 0) := by
        show [ot b (en b 0 (w.take (j + 1)))] = [_]
        rw [take_succ hlt, en_snoc]; rfl
      rw [e3] at ih
      exact ih
    · have : j = w.length := by omega
      subst this
      rw [if_neg (by omega), List.take_of_length_le (Nat.le_refl _)]
      rfl

theorem f26 (K : Nat) (hK : 50 ≤ K) (b : Bx) (w : List Int) : implf26 K b w = some (if wc b w = 0 then (ans b w, 0) else ([], wc b w)) := by
  unfold implf26
  rw [f63 K hK]
  simp only [obS, ibne, cnot, cdec]
  by_cases h : wc b w = 0
  · obtain ⟨hv, hl, hw⟩ := wc_zero h
    rw [if_pos h, if_pos h, if_pos (by have := hv.1; have := hv.2.2.1; omega)]
    have h := l26 K hv hw (by omega) K 0 (by omega) (by omega)
    simp only [Int.natCast_zero, List.take_zero] at h
    have e : en b 0 [] = 0 := rfl
    rw [e] at h
    have e2 : (List.range (0 + 1)).map (fun i => ot b (en b 0 (w.take i))) = (List.replicate 1 0).set 0 (b.2.getD 0 0) := rfl
    rw [e2] at h
    rw [h]; rfl
  · rw [if_neg h, if_neg h]

theorem l23 (K : Nat) (a c : List Int) (hl : a.length = c.length) (hb : a.length ≤ 1000000) : ∀ (k j : Nat), a.length - j < k → j ≤ a.length →
    impll23_0 K k a c j = if a.drop j = c.drop j then some (.inl ((a.length : Int), ())) else some (.inr false)
  | 0, j, hk, hj => by omega
  | k + 1, j, hk, hj => by
    rw [impll23_0, implb23_0]
    simp only [cdec, ibne, cnot]
    by_cases hlt : j < a.length
    · have c1 : (j : Int) < (a.length : Int) := by omega
      have c2 : 0 ≤ (j : Int) ∧ (j : Int) < (a.length : Int) := by omega
      have c3 : 0 ≤ (j : Int) ∧ (j : Int) < (c.length : Int) := by omega
      simp only [if_pos c1, if_pos c2, if_pos c3]
      rw [wrapS (by omega), l23 K a c hl hb k (j + 1) (by omega) (by omega)]
      have e1 : a.getD (j : Int).toNat 0 = a.getD j 0 := rfl
      have e2 : c.getD (j : Int).toNat 0 = c.getD j 0 := rfl
      rw [e1, e2, drop_cons hlt, drop_cons (w := c) (j := j) (by omega)]
      simp only [List.cons.injEq]
      by_cases g : a.getD j 0 = c.getD j 0
      · rw [if_pos g]
        by_cases h : a.drop (j + 1) = c.drop (j + 1)
        · rw [if_pos h, if_pos ⟨g, h⟩]
        · rw [if_neg h, if_neg (fun h' => h h'.2)]
      · rw [if_neg g, if_neg (fun h' => g h'.1)]
    · have : j = a.length := by omega
      subst this
      have hd : a.drop a.length = c.drop a.length := by rw [List.drop_of_length_le (Nat.le_refl _), List.drop_of_length_le (by omega)]
      rw [if_neg (by omega), if_pos hd]

theorem f23 (K : Nat) (a c : List Int) (hK : a.length < K) (hb : a.length ≤ 1000000) : implf23 K a c = some (decide (a = c)) := by
  unfold implf23
  simp only [ibne, cnot, cdec]
  by_cases hl : a.length = c.length
  · rw [if_pos (by omega)]
    have h := l23 K a c hl hb K 0 (by omega) (by omega)
    simp only [Int.natCast_zero, List.drop_zero] at h
    rw [h]
    by_cases h : a = c
    · rw [if_pos h]; simp [h, obS]
    · rw [if_neg h]; simp [h, obS]
  · rw [if_neg (by omega)]
    have : a ≠ c := fun h => hl (by rw [h])
    simp [this]

/-- Are a box or lists too long? -/
def lng (b : Bx) (l : List (List Int)) : Prop := (∃ x ∈ l, 100 < x.length) ∨ 50 < b.1.length ∨ 50 < b.2.length

theorem l19 (K : Nat) (b : Bx) (l : List (List Int)) (hb : l.length ≤ 1000000) : ∀ (k j : Nat), l.length - j < k → j ≤ l.length →
    impll19_0 K k l b j = if (∃ x ∈ l.drop j, 100 < x.length) then some (.inr true) else some (.inl ((l.length : Int), ()))
  | 0, j, hk, hj => by omega
  | k + 1, j, hk, hj => by
    rw [impll19_0, implb19_0]
    simp only [cdec]
    by_cases hlt : j < l.length
    · rw [if_pos (by omega), if_pos (by omega), wrapS (by omega), l19 K b l hb k (j + 1) (by omega) (by omega)]
      have hd : l.drop j = l.getD j [] :: l.drop (j + 1) := by
        rw [List.drop_eq_getElem_cons hlt]; simp [List.getD, hlt]
      have e : l.getD (j : Int).toNat [] = l.getD j [] := rfl
      rw [e, hd]
      by_cases g : 100 < (l.getD j []).length
      · rw [if_pos (by omega), if_pos ⟨_, List.mem_cons_self, g⟩]
      · rw [if_neg (by omega)]
        by_cases h : ∃ x ∈ l.drop (j + 1), 100 < x.length
        · obtain ⟨x, h1, h2⟩ := h
          rw [if_pos ⟨x, h1, h2⟩, if_pos ⟨x, List.mem_cons_of_mem _ h1, h2⟩]
        · rw [if_neg h, if_neg]
          rintro ⟨x, h1, h2⟩
          rcases List.mem_cons.1 h1 with rfl | h1
          · exact g h2
          · exact h ⟨x, h1, h2⟩
    · have : j = l.length := by omega
      subst this
      rw [if_neg (by omega), if_neg (by rintro ⟨x, h1, _⟩; simp at h1)]

theorem f19 (K : Nat) (b : Bx) (l : List (List Int)) (hK : l.length < K) (hb : l.length ≤ 1000000) : implf19 K b l = some (decide (lng b l)) := by
  unfold implf19 lng
  have h := l19 K b l hb K 0 (by omega) (by omega)
  simp only [Int.natCast_zero, List.drop_zero] at h
  rw [h]
  by_cases h : ∃ x ∈ l, 100 < x.length
  · rw [if_pos h]
    simp [obS, h]
  · rw [if_neg h]
    simp only [obS, cdec, h, false_or]
    by_cases h1 : 50 < b.1.length
    · rw [if_pos (by omega)]; simp [h1]
    · rw [if_neg (by omega)]
      simp only [h1, false_or]
      congr 1
      exact decide_eq_decide.2 (by omega)

theorem sane_ok : implf20 300 = some true := by kernel_rfl

end Go.Proofs.Ythdmngalhppkcaa
