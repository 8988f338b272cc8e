/- Moved cliffs, mirrored cliffs, the normal form. -/
import Derived.Test.YtdgibokmaannjaaM3
set_option linter.unusedVariables false
set_option linter.unusedSimpArgs false
namespace Go.Proofs.Ytdgibokmaannjaa
open Go Go.Pv Classical

theorem get_mid {l : List Int} {j : Nat} (g : Int → Int) (hj : j < l.length) : ((l.take j).map g ++ l.drop j).getD j 0 = l.getD j 0 := by
  rw [drop_getD 0 hj]
  have := getA ((l.take j).map g) (l.drop (j + 1)) (l.getD j 0)
  rwa [List.length_map, List.length_take, Nat.min_eq_left (Nat.le_of_lt hj)] at this

theorem w76 (c : List Int) (b : Int) (hc : c.length ≤ 1000) (hb : ∀ y ∈ c, -9223372036854775808 ≤ y + b ∧ y + b ≤ 9223372036854775807) : implf76 5000 c b = some (c.map (· + b)) := by
  unfold implf76
  rw [w83 c hc, obS]
  have h := upto (fun k (s : List Int × Nat) => impll76_0 5000 k b s.1 (c.length : Int) (s.2 : Int)) (fun j => ((c.take j).map (· + b) ++ c.drop j, j)) c.length (c.map (· + b), (c.length : Int), ())
    (fun k j hj => by
      show impll76_0 5000 (k + 1) b ((c.take j).map (· + b) ++ c.drop j) (c.length : Int) (j : Int) = _
      have hl : ((c.take j).map (· + b) ++ c.drop j).length = c.length := by simp; omega
      have := hb _ (getD_mem 0 hj)
      rw [impll76_0, implb76_0, cdec, if_pos (by omega), if_pos ⟨by omega, by omega⟩, if_pos ⟨by omega, by omega⟩, Int.toNat_natCast, get_mid _ hj, wrapI (by omega) (by omega), wrapS (by omega), set_map 0 (· + b) hj])
    (fun k => by
      show impll76_0 5000 (k + 1) b ((c.take c.length).map (· + b) ++ c.drop c.length) (c.length : Int) (c.length : Int) = _
      rw [impll76_0, implb76_0, cdec, if_neg (by omega), List.take_length, List.drop_length, List.append_nil]) 5000 0 (by omega) (Nat.zero_le _)
  have h : impll76_0 5000 5000 b c (c.length : Int) 0 = _ := h
  have h : impll76_0 5000 5000 b c (Int.ofNat c.length) 0 = _ := h
  first
    | rw [h]; rfl
    | (have h : impll76_0 5000 5000 b c (c.length : Int) 0 = _ := h
       rw [h]; rfl)

/-- The mirror image. -/
def mirF (c : List Int) (x : Int) : Int := c.getD 0 0 + c.getD (c.length - 1) 0 - x
def mir (c : List Int) : List Int := (c.map (mirF c)).reverse
theorem mir_len (c : List Int) : (mir c).length = c.length := by simp [mir]
theorem mir_get {c : List Int} {j : Nat} (hj : j < c.length) : (mir c).getD j 0 = mirF c (c.getD (c.length - 1 - j) 0) := by
  unfold mir
  have h2 : c.length - 1 - j < c.length := by omega
  simp [List.getD, List.getElem?_reverse, hj, h2]
theorem back_map (f : Int → Int) (c : List Int) : ∀ n, n ≤ c.length → (backL c n).map (fun q => f q.2) = ((c.take n).map f).reverse
  | 0, _ => by simp [backL]
  | n + 1, h => by
    rw [backL_succ, List.map_cons, back_map f c n (by omega), take_getD 0 (show n < c.length by omega), List.map_append, List.reverse_append]
    rfl
theorem mirV_eq {c : List Int} (hB : B c) (h0 : 0 < c.length) {y : Int} (hy : y ∈ c) : mirV c y = mirF c y := by
  have h1 := hB _ (getD_mem 0 h0)
  have h2 := hB _ (getD_mem 0 (show c.length - 1 < c.length by omega))
  have h3 := hB y hy
  unfold mirV mirF
  rw [wrapI (n := c.getD 0 0 + c.getD (c.length - 1) 0) (by omega) (by omega), wrapI (by omega) (by omega)]
theorem w77 (c : List Int) (h0 : 0 < c.length) (hc : c.length ≤ 1000) (hB : B c) : implf77 5000 c = some (mir c) := by
  unfold implf77
  rw [show c.length.ble 1000 = true from Nat.ble_eq_true_of_le hc]
  simp only []
  rw [cdec, if_pos ⟨h0, hc⟩, back_map (mirV c) c c.length (Nat.le_refl _), List.take_length]
  unfold mir
  rw [List.map_congr_left (fun y hy => mirV_eq hB h0 hy)]
theorem w78 (c : List Int) (h0 : 0 < c.length) (hc : c.length ≤ 1000) (hB : B c) : implf78 5000 c = some (mir c) := by
  have hb0 := hB _ (getD_mem 0 h0)
  have hb1 := hB _ (getD_mem 0 (show c.length - 1 < c.length by omega))
  have h := upto (fun k (s : List Int × Int) => impll78_0 5000 k c s.1 s.2) (fun j => ((mir c).take j, (c.length : Int) - 1 - (j : Int))) c.length (mir c, -1, ())
    (fun k j hj => by
      show impll78_0 5000 (k + 1) c ((mir c).take j) ((c.length : Int) - 1 - (j : Int)) = _
      have hi : c.length - 1 - j < c.length := by omega
      have hb2 := hB _ (getD_mem 0 hi)
      rw [show (c.length : Int) - 1 - (j : Int) = ((c.length - 1 - j : Nat) : Int) by omega, impll78_0, implb78_0, cdec, if_pos (by omega), if_pos ⟨by omega, by omega⟩, wrapP (by omega) (by omega), if_pos ⟨by omega, by omega⟩, if_pos ⟨by omega, by omega⟩,
        if_pos (by have := mir_len c; simp; omega), Int.toNat_natCast, Int.toNat_natCast, wrapI (n := c.getD 0 0 + c.getD (c.length - 1) 0) (by omega) (by omega), wrapI (n := c.getD 0 0 + c.getD (c.length - 1) 0 - c.getD (c.length - 1 - j) 0) (by omega) (by omega), one1, wrapI (by omega) (by omega)]
      have e1 := take_getD 0 (show j < (mir c).length by rw [mir_len]; omega)
      rw [mir_get hj] at e1
      show impll78_0 5000 k c _ _ = impll78_0 5000 k c ((mir c).take (j + 1)) ((c.length : Int) - 1 - ((j + 1 : Nat) : Int))
      rw [e1]
      congr 1
      omega)
    (fun k => by
      show impll78_0 5000 (k + 1) c ((mir c).take c.length) ((c.length : Int) - 1 - (c.length : Int)) = _
      rw [show (c.length : Int) - 1 - (c.length : Int) = -1 by omega, impll78_0, implb78_0, cdec, if_neg (by omega), List.take_of_length_le (by rw [mir_len]; omega)]) 5000 0 (by omega) (Nat.zero_le _)
  have h : impll78_0 5000 5000 c [] ((c.length : Int) - 1 - 0) = _ := h
  unfold implf78
  rw [wrapI (n := (c.length : Int) - 1) (by omega) (by omega), show (c.length : Int) - 1 = (c.length : Int) - 1 - 0 by omega, h]; rfl

theorem w90_loop (x y : List Int) (hx : x.length ≤ 1000) (hxy : x.length = y.length) : ∀ (m k i : Nat), i + m = x.length → m < k →
    (ob (impll90_0 5000 k x y (i : Int)) fun y1 => (match y1 with | .inl y2 => some (true) | .inr y2 => some (y2))) = some (decide (cmpL (x.drop i) (y.drop i) ≤ 0))
  | m, 0, i, _, h => by omega
  | 0, k + 1, i, h1, h2 => by
    rw [impll90_0, implb90_0, cdec, if_neg (by omega), obS]
    rw [List.drop_eq_nil_of_le (show x.length ≤ i by omega), List.drop_eq_nil_of_le (show y.length ≤ i by omega)]
    rfl
  | m + 1, k + 1, i, h1, h2 => by
    rw [impll90_0, implb90_0, cdec, if_pos (by omega), if_pos ⟨by omega, by omega⟩, if_pos ⟨by omega, by omega⟩, ibne, cnot, cdec]
    rw [drop_getD 0 (show i < x.length by omega), drop_getD 0 (show i < y.length by omega), Int.toNat_natCast, cmpL]
    by_cases g : x.getD i 0 = y.getD i 0
    · rw [if_pos g, wrapS (by omega), if_neg (by omega), if_neg (by omega)]
      exact w90_loop x y hx hxy m k (i + 1) (by omega) (by omega)
    · rw [if_neg g, if_pos ⟨by omega, by omega⟩, if_pos ⟨by omega, by omega⟩, obS]
      by_cases l1 : x.getD i 0 < y.getD i 0
      · rw [if_pos l1, decide_eq_true l1]; rfl
      · rw [if_neg l1, if_pos (show y.getD i 0 < x.getD i 0 by omega), decide_eq_false l1]; rfl
theorem w90 (x y : List Int) (hx : x.length ≤ 1000) (hxy : x.length = y.length) : implf90 5000 x y = some (decide (cmpL x y ≤ 0)) := by
  have h := w90_loop x y hx hxy x.length 5000 0 (by omega) (by omega)
  rw [List.drop_zero, List.drop_zero] at h
  exact h

/-- From zero on. -/
def zer (c : List Int) : List Int := c.map (· + -c.getD 0 0)
theorem zer_len (c : List Int) : (zer c).length = c.length := by simp [zer]
noncomputable def nrm (c : List Int) : List Int := if cmpL (mir (zer c)) (zer c) < 0 then mir (zer c) else zer c
theorem V.pos {c : List Int} (h : V c) : 0 < c.length := h.1.1
theorem V.zB {c : List Int} (h : V c) : Go.Proofs.Ytdgibokmaannjaa.B (zer c) := by
  intro y hy
  obtain ⟨x, hx, rfl⟩ := List.mem_map.1 hy
  have h1 := h.b x hx
  have h2 := h.b _ (getD_mem 0 h.pos)
  omega
theorem w74 (c : List Int) (h : V c) : implf74 5000 c = some (nrm c) := by
  unfold implf74
  have h2 := h.b _ (getD_mem 0 h.pos)
  have hp := h.pos
  have hl := h.1.2
  rw [if_pos ⟨by omega, by omega⟩, wrapI (by omega) (by omega), show (0 : Int) - c.getD 0 0 = -c.getD 0 0 by omega, w76 c _ (by omega) (fun y hy => by have := h.b y hy; omega), obS]
  have hz : c.map (· + -c.getD 0 0) = zer c := rfl
  rw [hz, w77 _ (by rw [zer_len]; omega) (by rw [zer_len]; omega) h.zB, obS, w94 _ _ (by rw [mir_len, zer_len]; omega), obS, cdec]
  unfold nrm
  by_cases g : cmpL (mir (zer c)) (zer c) < 0
  · rw [if_pos g, if_pos g]
  · rw [if_neg g, if_neg g]
theorem w66 (c : List Int) (h : V c) : implf66 5000 c = some (nrm c) := by
  have hp := h.pos
  have hl := h.1.2
  have h0 := h.b _ (getD_mem 0 hp)
  have hh := upto (fun k (s : List Int × Nat) => impll66_0 5000 k c s.1 (s.2 : Int)) (fun j => ((c.take j).map (· + -c.getD 0 0), j)) c.length (zer c, (c.length : Int), ())
    (fun k j hj => by
      show impll66_0 5000 (k + 1) c ((c.take j).map (· + -c.getD 0 0)) (j : Int) = _
      have hb2 := h.b _ (getD_mem 0 hj)
      rw [impll66_0, implb66_0, cdec, if_pos (by omega), if_pos ⟨by omega, by omega⟩, if_pos ⟨by omega, by omega⟩, if_pos (by simp; omega), Int.toNat_natCast, wrapI (by omega) (by omega), one1, wrapS (by omega), show c.getD j 0 - c.getD 0 0 = c.getD j 0 + -c.getD 0 0 by omega, map_snoc 0 (· + -c.getD 0 0) hj])
    (fun k => by
      show impll66_0 5000 (k + 1) c ((c.take c.length).map (· + -c.getD 0 0)) (c.length : Int) = _
      rw [impll66_0, implb66_0, cdec, if_neg (by omega), List.take_length]; rfl) 5000 0 (by omega) (Nat.zero_le _)
  have hh : impll66_0 5000 5000 c [] 0 = _ := hh
  have hm : implf78 5000 (zer c) = some (mir (zer c)) := w78 _ (by rw [zer_len]; omega) (by rw [zer_len]; omega) h.zB
  unfold implf66
  rw [hh, obS, hm, obS, w90 (zer c) (mir (zer c)) (by rw [zer_len]; omega) (by rw [mir_len]), obS, cdec]
  have hsw := cmpL_swap (mir (zer c)) (zer c)
  unfold nrm
  by_cases g : cmpL (mir (zer c)) (zer c) < 0
  · rw [if_neg (by omega), if_pos g]; rfl
  · rw [if_pos (by omega), if_neg g]

theorem zer_sh {c : List Int} {b : Int} (hp : 0 < c.length) : zer (c.map (· + b)) = zer c := by
  unfold zer
  rw [getD_map 0 0 (· + b) hp, List.map_map]
  refine List.map_congr_left fun y _ => ?_
  show y + b + -(c.getD 0 0 + b) = y + -c.getD 0 0
  omega
theorem zer_get {c : List Int} {j : Nat} (hj : j < c.length) : (zer c).getD j 0 = c.getD j 0 - c.getD 0 0 := by
  unfold zer
  rw [getD_map 0 0 _ hj]
  omega
theorem ext_getD {x y : List Int} (h : x.length = y.length) (h2 : ∀ i, i < x.length → x.getD i 0 = y.getD i 0) : x = y := (eq_getD h).1 fun i _ hi => h2 i hi
theorem zer_mir {c : List Int} (hp : 0 < c.length) : zer (mir c) = mir (zer c) := by
  refine ext_getD (by rw [zer_len, mir_len, mir_len, zer_len]) fun i hi => ?_
  rw [zer_len, mir_len] at hi
  rw [zer_get (by rw [mir_len]; exact hi), mir_get hi, mir_get hp, mir_get (by rw [zer_len]; exact hi)]
  unfold mirF
  rw [zer_len, zer_get hp, zer_get (show c.length - 1 < c.length by omega), zer_get (show c.length - 1 - i < c.length by omega), Nat.sub_zero]
  omega
theorem mir_mir {c : List Int} (hp : 0 < c.length) : mir (mir c) = c := by
  refine ext_getD (by rw [mir_len, mir_len]) fun i hi => ?_
  rw [mir_len, mir_len] at hi
  rw [mir_get (by rw [mir_len]; exact hi), mir_len]
  unfold mirF
  rw [mir_len, mir_get hp, mir_get (show c.length - 1 < c.length by omega), mir_get (show c.length - 1 - i < c.length by omega)]
  unfold mirF
  rw [show c.length - 1 - (c.length - 1 - i) = i by omega, show c.length - 1 - (c.length - 1) = 0 by omega, Nat.sub_zero]
  omega
theorem nrm_sh {c : List Int} {b : Int} (hp : 0 < c.length) : nrm (c.map (· + b)) = nrm c := by unfold nrm; rw [zer_sh hp]
theorem nrm_mir {c : List Int} (hp : 0 < c.length) : nrm (mir c) = nrm c := by
  unfold nrm
  rw [zer_mir hp, mir_mir (by rw [zer_len]; exact hp)]
  have hsw := cmpL_swap (mir (zer c)) (zer c)
  by_cases g : cmpL (mir (zer c)) (zer c) < 0
  · rw [if_neg (by omega), if_pos g]
  · rw [if_neg g]
    by_cases g2 : cmpL (zer c) (mir (zer c)) < 0
    · rw [if_pos g2]
    · rw [if_neg g2]
      exact cmpL_eq _ _ (by omega)
theorem V.mir {c : List Int} (h : V c) : V (mir c) := by
  have hp := h.pos
  have hb0 := h.b _ (getD_mem 0 hp)
  refine ⟨by rw [mir_len]; exact h.1, fun i _ hi => ?_, ?_⟩
  · rw [mir_len] at hi
    have hlo : ∀ n j, j + n < c.length → c.getD j 0 ≤ c.getD (j + n) 0 := by
      intro n
      induction n with
      | zero => intro j _; simp
      | succ n ih =>
        intro j hj
        have h1 := ih j (by omega)
        have h2 := (h.2.1 (j + n + 1) (Nat.zero_le _) (by omega)).2 (by omega)
        rw [Nat.add_sub_cancel] at h2
        rw [← Nat.add_assoc]; omega
    have h1 := hlo (c.length - 1 - i) 0 (by omega)
    have h2 := hlo i (c.length - 1 - i) (by omega)
    rw [Nat.zero_add] at h1
    rw [show c.length - 1 - i + i = c.length - 1 by omega] at h2
    have hbl := h.b _ (getD_mem 0 (show c.length - 1 < c.length by omega))
    refine ⟨?_, fun h0 => ?_⟩
    · rw [mir_get hi]; unfold mirF; omega
    · rw [mir_get hi, mir_get (show i - 1 < c.length by omega)]
      unfold mirF
      have := (h.2.1 (c.length - 1 - (i - 1)) (Nat.zero_le _) (by omega)).2 (by omega)
      rw [show c.length - 1 - (i - 1) - 1 = c.length - 1 - i by omega] at this
      omega
  · rw [mir_len, mir_get hp, mir_get (show c.length - 1 < c.length by omega)]
    unfold mirF
    rw [show c.length - 1 - (c.length - 1) = 0 by omega, Nat.sub_zero]
    have := h.2.2
    omega
end Go.Proofs.Ytdgibokmaannjaa
