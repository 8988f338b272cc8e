/- The boxes that are made: turned, later, with other signals. -/
import Derived.Test.YthdmngalhppkcaaM1
set_option linter.unusedVariables false
set_option linter.unusedSimpArgs false
namespace Go.Proofs.Ythdmngalhppkcaa
open Go Go.Pv Classical

theorem f66 (K : Nat) (x : List Int) (h : x.length ≤ 1000000) : implf66 K x = some x := by
  unfold implf66
  rw [if_pos (by simp; omega)]; rfl
theorem f69 (K : Nat) (x : List (List Int)) (h : x.length ≤ 1000000) : implf69 K x = some x := by
  unfold implf69
  rw [if_pos (by simp; omega)]; rfl

/-! ### Equal boxes -/
theorem f34 (K : Nat) (a c : Bx) (h1 : a.1.length < K) (h2 : a.2.length < K) (h3 : a.1.length ≤ 1000000) (h4 : a.2.length ≤ 1000000) : implf34 K a c = some (decide (a = c)) := by
  unfold implf34
  simp only [ibne, cnot, cdec]
  by_cases hl : a.1.length = c.1.length
  · rw [if_pos (by omega)]
    have h := uptoAll (fun k (s : Bx × Bx × Int) => impll34_0 K k s.1 s.2.1 s.2.2) (fun j => (a, c, (j : Int))) a.1.length (fun j => a.1.getD j (List.replicate 2 0) = c.1.getD j (List.replicate 2 0))
      (.inl ((a.1.length : Int), ())) (.inr false) (fun k j hj hp => by
        show impll34_0 K (k + 1) a c j = impll34_0 K k a c ((j + 1 : Nat) : Int)
        rw [impll34_0, implb34_0]
        have c1 : (j : Int) < (a.1.length : Int) := by omega
        have c2 : 0 ≤ (j : Int) ∧ (j : Int) < (a.1.length : Int) := by omega
        have c3 : 0 ≤ (j : Int) ∧ (j : Int) < (c.1.length : Int) := by omega
        simp only [cdec, if_pos c1, if_pos c2, if_pos c3, cnot]
        refine (congrArg (fun t => bif t then impll34_0 K k a c (IntKind.i64.wrap ((j : Int) + 1)) else some (Sum.inr false)) (rowEq (a.1.getD (j : Int).toNat (List.replicate 2 0)) (c.1.getD (j : Int).toNat (List.replicate 2 0)))).trans ?_
        simp only [cdec]
        have hp : a.1.getD (j : Int).toNat (List.replicate 2 0) = c.1.getD (j : Int).toNat (List.replicate 2 0) := hp
        rw [if_pos hp, wrapS (by omega)]) (fun k j hj hp => by
        show impll34_0 K (k + 1) a c j = _
        rw [impll34_0, implb34_0]
        have c1 : (j : Int) < (a.1.length : Int) := by omega
        have c2 : 0 ≤ (j : Int) ∧ (j : Int) < (a.1.length : Int) := by omega
        have c3 : 0 ≤ (j : Int) ∧ (j : Int) < (c.1.length : Int) := by omega
        simp only [cdec, if_pos c1, if_pos c2, if_pos c3, cnot]
        refine (congrArg (fun t => bif t then impll34_0 K k a c (IntKind.i64.wrap ((j : Int) + 1)) else some (Sum.inr false)) (rowEq (a.1.getD (j : Int).toNat (List.replicate 2 0)) (c.1.getD (j : Int).toNat (List.replicate 2 0)))).trans ?_
        simp only [cdec]
        have hp : ¬ a.1.getD (j : Int).toNat (List.replicate 2 0) = c.1.getD (j : Int).toNat (List.replicate 2 0) := hp
        rw [if_neg hp]) (fun k => by
        show impll34_0 K (k + 1) a c (a.1.length : Nat) = _
        rw [impll34_0, implb34_0]
        simp only [cdec]
        rw [if_neg (by omega)]) K 0 (by omega) (by omega)
    have h : impll34_0 K K a c 0 = _ := h
    rw [h, obS]
    by_cases hr : ∀ i, 0 ≤ i → i < a.1.length → a.1.getD i (List.replicate 2 0) = c.1.getD i (List.replicate 2 0)
    · rw [if_pos hr]
      have e1 : a.1 = c.1 := by
        apply List.ext_getElem hl
        intro i g1 g2
        have := hr i (Nat.zero_le _) g1
        simpa [List.getD, g1, g2] using this
      show (ob (implf23 K a.2 c.2) fun y3 => some y3) = _
      rw [f23 K _ _ h2 h4, obS]
      by_cases e2 : a.2 = c.2
      · have : a = c := Prod.ext e1 e2
        simp [e2, this]
      · have : a ≠ c := fun h => e2 (by rw [h])
        simp [e2, this]
    · rw [if_neg hr]
      have : a ≠ c := fun h => hr fun i _ _ => by rw [h]
      simp [this]
  · rw [if_neg (by omega)]
    have : a ≠ c := fun h => hl (by rw [h])
    simp [this]

/-! ### Turned -/
def tg (r : List Int) : List Int := ((List.replicate 2 0).set 0 (r.getD 1 0)).set 1 (r.getD 0 0)
def tn (b : Bx) : Bx := (b.1.map tg, b.2)
noncomputable def vd (b : Bx) (c : Bx) : Bx × Int := if V b then (c, 0) else (([], []), 1)

theorem v_len {b : Bx} (h : V b) : b.1.length ≤ 6 ∧ b.2.length ≤ 6 ∧ b.2.length = b.1.length ∧ 1 ≤ b.1.length := ⟨h.2.1, by rw [h.2.2.1]; exact h.2.1, h.2.2.1, h.1⟩

theorem f32 (K : Nat) (hK : 10 ≤ K) (b : Bx) : implf32 K b = some (vd b (tn b)) := by
  unfold implf32 vd
  rw [f30 K hK]
  simp only [obS, ibne, cnot, cdec]
  by_cases hv : V b
  · obtain ⟨n1, n2, n3, n4⟩ := v_len hv
    simp only [if_pos hv]
    rw [if_pos trivial, f66 K _ (by omega), obS]
    have h := upto (fun k (s : Bx × Bx × List (List Int) × Int × Int) => impll32_0 K k s.1 s.2.1 s.2.2.1 s.2.2.2.1 s.2.2.2.2) (fun j => (([], []), ((b.1.take j).map tg, b.2), b.1, (b.1.length : Int), (j : Int))) b.1.length
      (([], []), tn b, (b.1.length : Int), ()) (fun k j hj => by
        show impll32_0 K (k + 1) ([], []) ((b.1.take j).map tg, b.2) b.1 b.1.length j = impll32_0 K k ([], []) ((b.1.take (j + 1)).map tg, b.2) b.1 b.1.length ((j + 1 : Nat) : Int)
        rw [impll32_0, implb32_0]
        simp only [cdec]
        rw [if_pos (by omega), if_pos (by omega), if_pos (by simp; omega), wrapS (by omega), ← map_snoc (List.replicate 2 0) tg hj]
        rfl) (fun k => by
        show impll32_0 K (k + 1) ([], []) ((b.1.take b.1.length).map tg, b.2) b.1 b.1.length b.1.length = _
        rw [impll32_0, implb32_0]
        simp only [cdec]
        rw [if_neg (by omega), List.take_of_length_le (Nat.le_refl _)]
        rfl) K 0 (by omega) (by omega)
    have h : impll32_0 K K ([], []) ([], b.2) b.1 b.1.length 0 = _ := h
    rw [h]; rfl
  · simp only [if_neg hv]
    rw [if_neg (by omega)]

theorem f33 (K : Nat) (hK : 10 ≤ K) (b : Bx) : implf33 K b = some (vd b (tn b)) := by
  unfold implf33 vd
  rw [f31 K hK]
  simp only [obS, ibne, cnot, cdec]
  by_cases hv : V b
  · obtain ⟨n1, n2, n3, n4⟩ := v_len hv
    simp only [if_pos hv]
    rw [if_pos trivial, if_pos (by simp; omega), if_pos (by simp; omega)]
    have h := upto (fun k (s : Bx × Bx × Bx × Int) => impll33_0 K k s.1 s.2.1 s.2.2.1 s.2.2.2) (fun j => (b, ([], []), ((b.1.take j).map tg ++ b.1.drop j, b.2), (j : Int))) b.1.length
      (([], []), tn b, (b.1.length : Int), ()) (fun k j hj => by
        show impll33_0 K (k + 1) b ([], []) ((b.1.take j).map tg ++ b.1.drop j, b.2) j = impll33_0 K k b ([], []) ((b.1.take (j + 1)).map tg ++ b.1.drop (j + 1), b.2) ((j + 1 : Nat) : Int)
        rw [impll33_0, implb33_0]
        have hlen : ((b.1.take j).map tg ++ b.1.drop j).length = b.1.length := by simp; omega
        have c1 : (j : Int) < ((((b.1.take j).map tg ++ b.1.drop j).length : Nat) : Int) := by omega
        have c2 : 0 ≤ (j : Int) ∧ (j : Int) < (b.1.length : Int) := by omega
        have c3 : 0 ≤ (j : Int) ∧ (j : Int) < ((((b.1.take j).map tg ++ b.1.drop j).length : Nat) : Int) := by omega
        simp only [cdec, if_pos c1, if_pos c2, if_pos c3]
        rw [wrapS (by omega), ← set_map (List.replicate 2 0) tg hj]
        rfl) (fun k => by
        show impll33_0 K (k + 1) b ([], []) ((b.1.take b.1.length).map tg ++ b.1.drop b.1.length, b.2) b.1.length = _
        rw [impll33_0, implb33_0]
        simp only [cdec]
        rw [if_neg (by simp), List.take_of_length_le (Nat.le_refl _), List.drop_of_length_le (Nat.le_refl _), List.append_nil]
        rfl) K 0 (by omega) (by omega)
    have h : impll33_0 K K b ([], []) (b.1, b.2) 0 = _ := h
    show (ob (impll33_0 K K b ([], []) (b.1, b.2) 0) _) = _
    rw [h]; rfl
  · simp only [if_neg hv]
    rw [if_neg (by omega)]

theorem nx_tn {b : Bx} {s x : Int} (hs : inB b s) (hx : 0 ≤ x ∧ x ≤ 1) : nx (tn b) s (1 - x) = nx b s x := by
  unfold nx tn
  show (((b.1.map tg).getD s.toNat (List.replicate 2 0)).getD (1 - x).toNat 0) = _
  rw [getD_map (List.replicate 2 0) _ tg (by have := hs.1; have := hs.2; omega)]
  have : x = 0 ∨ x = 1 := by omega
  rcases this with rfl | rfl <;> rfl

theorem v_tn {b : Bx} (hv : V b) : V (tn b) := by
  have hl : (tn b).1.length = b.1.length := by simp [tn]
  refine ⟨by rw [hl]; exact hv.1, by rw [hl]; exact hv.2.1, by rw [hl]; exact hv.2.2.1, fun j hj => ?_⟩
  rw [hl] at hj
  have hg := hv.2.2.2 j hj
  have hs : inB b j := ⟨by omega, by omega⟩
  have e0 := nx_tn (b := b) (s := j) (x := 1) hs (by omega)
  have e1 := nx_tn (b := b) (s := j) (x := 0) hs (by omega)
  unfold good
  rw [hl]
  exact ⟨by rw [show (0 : Int) = 1 - 1 from rfl, e0]; exact hg.2.1, by rw [show (1 : Int) = 1 - 0 from rfl, e1]; exact hg.1, hg.2.2⟩

def flip1 (w : List Int) : List Int := w.map fun x => 1 - x
theorem wok_flip {w : List Int} (h : wok w) : wok (flip1 w) := by
  intro y hy
  obtain ⟨x, hx, rfl⟩ := List.mem_map.1 hy
  have := h x hx
  omega

theorem en_tn {b : Bx} (hv : V b) : ∀ {w : List Int} {s : Int}, inB b s → wok w → en (tn b) s (flip1 w) = en b s w
  | [], s, _, _ => rfl
  | x :: w, s, hs, hw => by
    have hx := hw x (by simp)
    show en (tn b) (nx (tn b) s (1 - x)) (flip1 w) = en b (nx b s x) w
    rw [nx_tn hs hx]
    exact en_tn hv (nx_in hv hs hx) fun y hy => hw y (by simp [hy])

theorem ans_tn {b : Bx} (hv : V b) {w : List Int} (hw : wok w) : ans (tn b) (flip1 w) = ans b w := by
  unfold ans
  have hl : (flip1 w).length = w.length := by simp [flip1]
  rw [hl]
  refine List.map_congr_left fun i hi => ?_
  have : (flip1 w).take i = flip1 (w.take i) := by simp [flip1, List.map_take]
  rw [this, en_tn hv (zero_in hv) (wok_take hw i)]
  rfl

/-! ### Later -/
def lg (r : List Int) : List Int := ((List.replicate 2 0).set 0 (r.getD 0 0 + 1)).set 1 (r.getD 1 0 + 1)
def lt (b : Bx) : Bx := ([1, 1] :: b.1.map lg, 0 :: b.2)

noncomputable def lc (b : Bx) : Bx × Int := if V b then (if b.1.length = 6 then (([], []), 3) else (lt b, 0)) else (([], []), 1)

theorem row_w {b : Bx} (hv : V b) {j : Nat} (hj : j < b.1.length) :
    IntKind.i64.wrap ((b.1.getD (j : Int).toNat (List.replicate 2 0)).getD 0 0 + 1) = (b.1.getD j (List.replicate 2 0)).getD 0 0 + 1 ∧
    IntKind.i64.wrap ((b.1.getD (j : Int).toNat (List.replicate 2 0)).getD 1 0 + 1) = (b.1.getD j (List.replicate 2 0)).getD 1 0 + 1 := by
  have hg := hv.2.2.2 j hj
  have h6 := hv.2.1
  have e0 : nx b j 0 = (b.1.getD j (List.replicate 2 0)).getD 0 0 := rfl
  have e1 : nx b j 1 = (b.1.getD j (List.replicate 2 0)).getD 1 0 := rfl
  unfold good at hg
  rw [e0, e1] at hg
  exact ⟨wrapI (by have := hg.1.1; show _ ≤ (b.1.getD j (List.replicate 2 0)).getD 0 0 + 1; omega) (by have := hg.1.2; show (b.1.getD j (List.replicate 2 0)).getD 0 0 + 1 ≤ _; omega),
    wrapI (by have := hg.2.1.1; show _ ≤ (b.1.getD j (List.replicate 2 0)).getD 1 0 + 1; omega) (by have := hg.2.1.2; show (b.1.getD j (List.replicate 2 0)).getD 1 0 + 1 ≤ _; omega)⟩

theorem f35 (K : Nat) (hK : 10 ≤ K) (b : Bx) : implf35 K b = some (lc b) := by
  unfold implf35 lc
  rw [f30 K hK]
  simp only [obS, ibne, ibeq, cnot, cdec]
  by_cases hv : V b
  · obtain ⟨n1, n2, n3, n4⟩ := v_len hv
    simp only [if_pos hv]
    rw [if_pos trivial]
    by_cases h6 : b.1.length = 6
    · rw [if_pos (by omega), if_pos h6]
    · rw [if_neg (by omega), if_neg h6, if_pos (by simp; omega)]
      have h := upto (fun k (s : Bx × Bx × List (List Int) × Int × Int) => impll35_0 K k s.1 s.2.1 s.2.2.1 s.2.2.2.1 s.2.2.2.2) (fun j => (([], []), ([1, 1] :: (b.1.take j).map lg, 0 :: b.2), b.1, (b.1.length : Int), (j : Int))) b.1.length
        (([], []), lt b, (b.1.length : Int), ()) (fun k j hj => by
          show impll35_0 K (k + 1) ([], []) ([1, 1] :: (b.1.take j).map lg, 0 :: b.2) b.1 b.1.length j = impll35_0 K k ([], []) ([1, 1] :: (b.1.take (j + 1)).map lg, 0 :: b.2) b.1 b.1.length ((j + 1 : Nat) : Int)
          rw [impll35_0, implb35_0]
          simp only [cdec]
          obtain ⟨w0, w1⟩ := row_w hv hj
          rw [if_pos (by omega), if_pos (by omega), if_pos (by simp; omega), wrapS (by omega), ← map_snoc (List.replicate 2 0) lg hj, w0, w1]
          rfl) (fun k => by
          show impll35_0 K (k + 1) ([], []) ([1, 1] :: (b.1.take b.1.length).map lg, 0 :: b.2) b.1 b.1.length b.1.length = _
          rw [impll35_0, implb35_0]
          simp only [cdec]
          rw [if_neg (by omega), List.take_of_length_le (Nat.le_refl _)]
          rfl) K 0 (by omega) (by omega)
      have h : impll35_0 K K ([], []) ([[1, 1]], 0 :: b.2) b.1 b.1.length 0 = _ := h
      show (ob (impll35_0 K K ([], []) ([[1, 1]], 0 :: b.2) b.1 b.1.length 0) _) = _
      rw [h]; rfl
  · simp only [if_neg hv]
    rw [if_neg (by omega)]

theorem f36 (K : Nat) (hK : 10 ≤ K) (b : Bx) : implf36 K b = some (lc b) := by
  unfold implf36 lc
  rw [f31 K hK]
  simp only [obS, ibne, ibeq, cnot, cdec]
  by_cases hv : V b
  · obtain ⟨n1, n2, n3, n4⟩ := v_len hv
    simp only [if_pos hv]
    rw [if_pos trivial]
    by_cases h6 : b.1.length = 6
    · rw [if_pos (by omega), if_pos h6]
    · rw [if_neg (by omega), if_neg h6]
      have h := upto (fun k (s : Bx × Bx × Bx × Int) => impll36_0 K k s.1 s.2.1 s.2.2.1 s.2.2.2) (fun j => (b, ([], []), ([1, 1] :: (b.1.take j).map lg, 0 :: b.2.take j), (j : Int))) b.1.length
        (([], []), lt b, (b.1.length : Int), ()) (fun k j hj => by
          show impll36_0 K (k + 1) b ([], []) ([1, 1] :: (b.1.take j).map lg, 0 :: b.2.take j) j = impll36_0 K k b ([], []) ([1, 1] :: (b.1.take (j + 1)).map lg, 0 :: b.2.take (j + 1)) ((j + 1 : Nat) : Int)
          rw [impll36_0, implb36_0]
          obtain ⟨w0, w1⟩ := row_w hv hj
          have c1 : (j : Int) < (b.2.length : Int) := by omega
          have c2 : 0 ≤ (j : Int) ∧ (j : Int) < (b.1.length : Int) := by omega
          have c3 : 0 ≤ (j : Int) ∧ (j : Int) < (b.2.length : Int) := by omega
          simp only [cdec, if_pos c1, if_pos c2, if_pos c3]
          rw [if_pos (by simp; omega), if_pos (by simp; omega), wrapS (by omega), ← map_snoc (List.replicate 2 0) lg hj, take_getD (0 : Int) (w := b.2) (j := j) (by omega), w0, w1]
          rfl) (fun k => by
          show impll36_0 K (k + 1) b ([], []) ([1, 1] :: (b.1.take b.1.length).map lg, 0 :: b.2.take b.1.length) b.1.length = _
          rw [impll36_0, implb36_0]
          simp only [cdec]
          rw [if_neg (by omega), List.take_of_length_le (Nat.le_refl _), List.take_of_length_le (by omega)]
          rfl) K 0 (by omega) (by omega)
      have h : impll36_0 K K b ([], []) ([[1, 1]], [0]) 0 = _ := h
      show (ob (impll36_0 K K b ([], []) ([[1, 1]], [0]) 0) _) = _
      rw [h]; rfl
  · simp only [if_neg hv]
    rw [if_neg (by omega)]

theorem nx_lt0 (b : Bx) {x : Int} (hx : 0 ≤ x ∧ x ≤ 1) : nx (lt b) 0 x = 1 := by
  have : x = 0 ∨ x = 1 := by omega
  rcases this with rfl | rfl <;> rfl
theorem nx_lt {b : Bx} {s x : Int} (hs : inB b s) (hx : 0 ≤ x ∧ x ≤ 1) : nx (lt b) (s + 1) x = nx b s x + 1 := by
  unfold nx lt
  have e : (s + 1).toNat = s.toNat + 1 := by have := hs.1; omega
  rw [e]
  show (((b.1.map lg).getD s.toNat (List.replicate 2 0)).getD x.toNat 0) = _
  rw [getD_map (List.replicate 2 0) _ lg (by have := hs.1; have := hs.2; omega)]
  have : x = 0 ∨ x = 1 := by omega
  rcases this with rfl | rfl <;> rfl
theorem ot_lt {b : Bx} {s : Int} (hs : inB b s) : ot (lt b) (s + 1) = ot b s := by
  unfold ot lt
  have e : (s + 1).toNat = s.toNat + 1 := by have := hs.1; omega
  rw [e]; rfl

theorem v_lt {b : Bx} (hv : V b) (h6 : b.1.length ≠ 6) : V (lt b) := by
  have hl : (lt b).1.length = b.1.length + 1 := by simp [lt]
  have hl2 : (lt b).2.length = b.2.length + 1 := by simp [lt]
  have := hv.2.1
  have h1 := hv.1
  refine ⟨by omega, by omega, by rw [hl, hl2, hv.2.2.1], fun j hj => ?_⟩
  unfold good
  rw [hl] at hj ⊢
  cases j with
  | zero =>
    have e0 := nx_lt0 b (x := 0) (by omega)
    have e1 := nx_lt0 b (x := 1) (by omega)
    have e2 : ot (lt b) 0 = 0 := rfl
    have ez : ((0 : Nat) : Int) = 0 := rfl
    rw [ez, e0, e1, e2]
    omega
  | succ j =>
    have hg := hv.2.2.2 j (by omega)
    have hs : inB b j := ⟨by omega, by omega⟩
    have e0 := nx_lt (b := b) (s := j) (x := 0) hs (by omega)
    have e1 := nx_lt (b := b) (s := j) (x := 1) hs (by omega)
    have e2 := ot_lt (b := b) (s := j) hs
    have ej : ((j + 1 : Nat) : Int) = (j : Int) + 1 := by omega
    rw [ej, e0, e1, e2]
    unfold good at hg
    omega

theorem en_lt {b : Bx} (hv : V b) : ∀ {w : List Int} {s : Int}, inB b s → wok w → en (lt b) (s + 1) w = en b s w + 1
  | [], s, _, _ => rfl
  | x :: w, s, hs, hw => by
    have hx := hw x (by simp)
    show en (lt b) (nx (lt b) (s + 1) x) w = en b (nx b s x) w + 1
    rw [nx_lt hs hx]
    exact en_lt hv (nx_in hv hs hx) fun y hy => hw y (by simp [hy])

theorem ans_lt {b : Bx} (hv : V b) {x : Int} {w : List Int} (hw : wok (x :: w)) : ans (lt b) (x :: w) = 0 :: ans b w := by
  have hx := hw x (by simp)
  have hw' : wok w := fun y hy => hw y (by simp [hy])
  unfold ans
  rw [List.length_cons, List.range_succ_eq_map, List.map_cons, List.map_map]
  congr 1
  refine List.map_congr_left fun i hi => ?_
  show ot (lt b) (en (lt b) 0 (x :: w.take i)) = ot b (en b 0 (w.take i))
  have e : en (lt b) 0 (x :: w.take i) = en (lt b) (0 + 1) (w.take i) := by
    show en (lt b) (nx (lt b) 0 x) _ = _
    rw [nx_lt0 b hx]; rfl
  rw [e, en_lt hv (zero_in hv) (wok_take hw' i), ot_lt (en_in hv (zero_in hv) (wok_take hw' i))]

end Go.Proofs.Ythdmngalhppkcaa
