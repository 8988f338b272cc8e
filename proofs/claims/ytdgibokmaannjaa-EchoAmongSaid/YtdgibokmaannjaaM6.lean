/- Moved, mirrored, heard, scaled. -/
import Derived.Test.YtdgibokmaannjaaM5
set_option linter.unusedVariables false
set_option linter.unusedSimpArgs false
namespace Go.Proofs.Ytdgibokmaannjaa
open Go Go.Pv Classical

/-! ### Moved -/
noncomputable def shR (c : List Int) (b : Int) : List Int × Int := if V c then (if -120 ≤ b ∧ b ≤ 120 then (if V (c.map (· + b)) then (c.map (· + b), 0) else ([], 1)) else ([], 1)) else ([], vErr c)
theorem w38 (c : List Int) (b : Int) (hc : c.length ≤ 1000) : implf38 5000 c b = some (shR c b) := by
  unfold implf38 shR
  rw [w32 c hc, obS, ibne, cnot, cdec]
  by_cases h : V c
  · rw [if_pos (v_err.2 h), if_pos h, w61, obS, cnot, cdec]
    by_cases hb : -120 ≤ b ∧ b ≤ 120
    · rw [if_pos hb, if_pos hb, w76 c b (by omega) (fun y hy => by have := h.b y hy; omega), obS, w32 _ (by simp; omega), obS, ibne, cnot, cdec]
      by_cases h2 : V (c.map (· + b))
      · rw [if_pos (v_err.2 h2), if_pos h2, obS]
      · rw [if_neg (fun e => h2 (v_err.1 e)), if_neg h2]
    · rw [if_neg hb, if_neg hb]
  · rw [if_neg (fun e => h (v_err.1 e)), if_neg h]
theorem w39 (c : List Int) (b : Int) (hc : c.length ≤ 1000) : implf39 5000 c b = some (shR c b) := by
  unfold implf39 shR
  rw [w33 c hc, obS, ibne, cnot, cdec]
  by_cases h : V c
  · rw [if_pos (v_err.2 h), if_pos h, w63, obS, cnot, cdec]
    by_cases hb : -120 ≤ b ∧ b ≤ 120
    · have hh := upto (fun k (s : List Int × Nat) => impll39_0 5000 k c b s.1 (s.2 : Int)) (fun j => ((c.take j).map (· + b), j)) c.length (c.map (· + b), (c.length : Int), ())
        (fun k j hj => by
          show impll39_0 5000 (k + 1) c b ((c.take j).map (· + b)) (j : Int) = _
          have hb2 := h.b _ (getD_mem 0 hj)
          rw [impll39_0, implb39_0, cdec, if_pos (by omega), if_pos ⟨by omega, by omega⟩, if_pos (by simp; omega), Int.toNat_natCast, wrapI (by omega) (by omega), one1, wrapS (by omega), map_snoc 0 (· + b) hj])
        (fun k => by
          show impll39_0 5000 (k + 1) c b ((c.take c.length).map (· + b)) (c.length : Int) = _
          rw [impll39_0, implb39_0, cdec, if_neg (by omega), List.take_length]) 5000 0 (by omega) (Nat.zero_le _)
      have hh : impll39_0 5000 5000 c b [] 0 = _ := hh
      rw [if_pos hb, if_pos hb, hh, obS]
      show (ob (implf33 5000 (c.map (· + b))) fun y4 => (bif y4 != 0 then some ([], 1) else some (c.map (· + b), 0))) = _
      rw [w33 _ (by simp; omega), obS, ibne, cnot, cdec]
      by_cases h2 : V (c.map (· + b))
      · rw [if_pos (v_err.2 h2), if_pos h2]
      · rw [if_neg (fun e => h2 (v_err.1 e)), if_neg h2]
    · rw [if_neg hb, if_neg hb]
  · rw [if_neg (fun e => h (v_err.1 e)), if_neg h]
theorem shifts_all (c : List Int) (b : Int) : implf9 5000 c b = some true := by
  unfold implf9
  rw [long1, obS, cdec]
  by_cases hl : 100 < c.length
  · rw [if_pos hl, sane5]; rfl
  · rw [if_neg hl, w38 c b (by omega), w39 c b (by omega), obS, obS]
    have hn : (shR c b).1.length ≤ 1000 := by
      unfold shR
      split
      · split
        · split
          · simp; omega
          · simp
        · simp
      · simp
    rw [w24 _ _ hn, obS, decide_eq_true rfl]
    simp only [Bool.not_true, cond_false, ibne, cnot, decide_true, cdec]
    by_cases he : (shR c b).2 = 0
    · have hV : V c ∧ V (c.map (· + b)) ∧ shR c b = (c.map (· + b), 0) := by
        unfold shR at he ⊢
        by_cases h1 : V c
        · rw [if_pos h1] at he ⊢
          by_cases h2 : -120 ≤ b ∧ b ≤ 120
          · rw [if_pos h2] at he ⊢
            by_cases h3 : V (c.map (· + b))
            · rw [if_pos h3]; exact ⟨h1, h3, rfl⟩
            · rw [if_neg h3] at he; exact absurd he (by decide)
          · rw [if_neg h2] at he; exact absurd he (by decide)
        · rw [if_neg h1] at he; exact absurd (v_err.1 he) h1
      rw [if_pos he, hV.2.2, w40 c _ (by omega) (by simp; omega), obS, if_pos ⟨hV.1, hV.2.1⟩, nrm_sh hV.1.pos, decide_eq_true rfl, b_err.2 ⟨hV.1, hV.2.1⟩, sane5]; rfl
    · rw [if_neg he, sane5]; rfl

/-! ### Mirrored -/
def fil (a : List Int) : Nat → List Int
  | 0 => a
  | j + 1 => (fil a j).set j 1000
theorem fil_len (a : List Int) : ∀ j, (fil a j).length = a.length
  | 0 => rfl
  | j + 1 => by rw [fil, List.length_set, fil_len a j]
theorem w11_0 (x1 x2 a x4 : List Int) (x5 x7 x9 : Int) (x6 x8 : Bool) (ha : a.length ≤ 1000) : ∃ r, impll11_0 5000 5000 x1 x2 a x4 x5 x6 x7 x8 x9 0 = some r := by
  have h := upto (fun k (s : List Int × Nat) => impll11_0 5000 k x1 x2 s.1 x4 x5 x6 x7 x8 x9 (s.2 : Int)) (fun j => (fil a j, j)) a.length (fil a a.length, (a.length : Int), ())
    (fun k j hj => by
      show impll11_0 5000 (k + 1) x1 x2 (fil a j) x4 x5 x6 x7 x8 x9 (j : Int) = _
      have := fil_len a j
      rw [impll11_0, implb11_0, cdec, if_pos (by omega), if_pos ⟨by omega, by omega⟩, Int.toNat_natCast, wrapS (by omega)]; rfl)
    (fun k => by
      show impll11_0 5000 (k + 1) x1 x2 (fil a a.length) x4 x5 x6 x7 x8 x9 (a.length : Int) = _
      have := fil_len a a.length
      rw [impll11_0, implb11_0, cdec, if_neg (by omega)]) 5000 0 (by omega) (Nat.zero_le _)
  exact ⟨_, h⟩
theorem mirrors_all (c : List Int) : implf11 5000 c = some true := by
  unfold implf11
  rw [long1, obS, cdec]
  by_cases hl : 100 < c.length
  · rw [if_pos hl, sane5]; rfl
  · have hn : (if V c then mir c else []).length ≤ 1000 := by
      by_cases h : V c
      · rw [if_pos h, mir_len]; omega
      · rw [if_neg h]; simp
    rw [if_neg hl, if_pos (by simp; omega), show List.replicate 0 (0 : Int) ++ c = c from rfl, w44 c (by omega), obS, w45 c (by omega), obS, w24 _ _ hn, obS, decide_eq_true rfl]
    simp only [Bool.not_true, cond_false, ibne, cnot, decide_true, cdec, if_true]
    by_cases h : V c
    · rw [if_pos (v_err.2 h), if_pos h, w44 _ (by rw [mir_len]; omega), obS, w40 c _ (by omega) (by rw [mir_len]; omega), obS, w28 c _ (by omega) (by rw [mir_len]; omega), obS, if_pos h.mir, mir_mir h.pos, if_pos ⟨h, h.mir⟩, if_pos ⟨h, h.mir⟩, nrm_mir h.pos, D_mir h, decide_eq_true rfl, decide_eq_true rfl, b_err.2 ⟨h, h.mir⟩, v_err.2 h.mir]
      obtain ⟨r, hr⟩ := w11_0 c c (mir c) c 0 0 0 true true (by rw [mir_len]; omega)
      rw [hr, obS, w24 c c (by omega), decide_eq_true rfl, obS, obS, sane5]; rfl
    · rw [if_neg (fun e => h (v_err.1 e)), sane5]; rfl

/-! ### Heard -/
def hf (s n : Int) : Int := 2 * max (n - s) (s - n)
noncomputable def hR (c : List Int) (s : Int) : List Int × Int := if V c then (if -1000 ≤ s ∧ s ≤ 1000 then (isort leI (c.map (hf s)), 0) else ([], 1)) else ([], vErr c)
theorem hf_wrap {s n : Int} (h1 : -60 ≤ n ∧ n ≤ 60) (h2 : -1000 ≤ s ∧ s ≤ 1000) : IntKind.i64.wrap (2 * max (IntKind.i64.wrap (n - s)) (IntKind.i64.wrap (s - n))) = hf s n := by
  unfold hf
  rw [wrapI (n := n - s) (by omega) (by omega), wrapI (n := s - n) (by omega) (by omega), wrapI (by omega) (by omega)]
theorem w48 (c : List Int) (s : Int) (hc : c.length ≤ 1000) : implf48 5000 c s = some (hR c s) := by
  unfold implf48 hR
  rw [w32 c hc, obS, ibne, cnot, cdec]
  by_cases h : V c
  · rw [if_pos (v_err.2 h), if_pos h, w61, obS, cnot, cdec]
    by_cases hb : -1000 ≤ s ∧ s ≤ 1000
    · have hh := upto (fun k (t : List Int × Nat) => impll48_0 5000 k s t.1 c (c.length : Int) (t.2 : Int)) (fun j => ((c.take j).map (hf s), j)) c.length (c.map (hf s), (c.length : Int), ())
        (fun k j hj => by
          show impll48_0 5000 (k + 1) s ((c.take j).map (hf s)) c (c.length : Int) (j : Int) = _
          rw [impll48_0, implb48_0, cdec, if_pos (by omega), if_pos ⟨by omega, by omega⟩, if_pos (by simp; omega), Int.toNat_natCast, hf_wrap (h.b _ (getD_mem 0 hj)) hb, one1, wrapS (by omega), map_snoc 0 (hf s) hj])
        (fun k => by
          show impll48_0 5000 (k + 1) s ((c.take c.length).map (hf s)) c (c.length : Int) (c.length : Int) = _
          rw [impll48_0, implb48_0, cdec, if_neg (by omega), List.take_length]) 5000 0 (by omega) (Nat.zero_le _)
      have hh : impll48_0 5000 5000 s [] c (c.length : Int) 0 = _ := hh
      rw [if_pos hb, if_pos hb, hh, obS, w81 _ (by simp; omega), obS]
    · rw [if_neg hb, if_neg hb]
  · rw [if_neg (fun e => h (v_err.1 e)), if_neg h]
theorem w49 (c : List Int) (s : Int) (hc : c.length ≤ 1000) : implf49 5000 c s = some (hR c s) := by
  unfold implf49 hR
  rw [w33 c hc, obS, ibne, cnot, cdec]
  by_cases h : V c
  · have hl := h.1.2
    rw [if_pos (v_err.2 h), if_pos h, w63, obS, cnot, cdec]
    by_cases hb : -1000 ≤ s ∧ s ≤ 1000
    · have hh := upto (fun k (t : List Int × Nat) => impll49_0 5000 k c s t.1 (t.2 : Int)) (fun j => ((c.take j).map (hf s), j)) c.length (c.map (hf s), (c.length : Int), ())
        (fun k j hj => by
          show impll49_0 5000 (k + 1) c s ((c.take j).map (hf s)) (j : Int) = _
          rw [impll49_0, implb49_0, cdec, if_pos (by omega), if_pos ⟨by omega, by omega⟩, if_pos ⟨by omega, by omega⟩, if_pos (by simp; omega), Int.toNat_natCast, hf_wrap (h.b _ (getD_mem 0 hj)) hb, one1, wrapS (by omega), map_snoc 0 (hf s) hj])
        (fun k => by
          show impll49_0 5000 (k + 1) c s ((c.take c.length).map (hf s)) (c.length : Int) = _
          rw [impll49_0, implb49_0, cdec, if_neg (by omega), List.take_length]) 5000 0 (by omega) (Nat.zero_le _)
      have hh : impll49_0 5000 5000 c s [] 0 = _ := hh
      rw [if_pos hb, if_pos hb, hh, obS, w82 _ (by simp; omega), obS]
    · rw [if_neg hb, if_neg hb]
  · rw [if_neg (fun e => h (v_err.1 e)), if_neg h]
theorem hR_len (c : List Int) (s : Int) (hc : c.length ≤ 100) : (hR c s).1.length ≤ 1000 := by
  unfold hR
  split
  · split
    · show (isort leI (c.map (hf s))).length ≤ 1000
      rw [(isort_perm _).length_eq, List.length_map]; omega
    · simp
  · simp
theorem heard_mir (c : List Int) (s : Int) : isort leI ((mir c).map (hf (c.getD 0 0 + c.getD (c.length - 1) 0 - s))) = isort leI (c.map (hf s)) := by
  refine is_isort ((isort_perm _).trans ?_) (isort_sorted leI_tr leI_to _)
  unfold mir
  refine ((List.reverse_perm _).map _).trans ?_
  rw [List.map_map]
  rw [List.map_congr_left (g := hf s) fun x _ => ?_]
  show hf _ (mirF c x) = hf s x
  unfold hf mirF
  congr 1
  omega
theorem hears_all (c : List Int) (s : Int) : implf13 5000 c s = some true := by
  unfold implf13
  rw [long1, obS, cdec]
  by_cases hl : 100 < c.length
  · rw [if_pos hl, sane5]; rfl
  · rw [if_neg hl, w48 c s (by omega), w49 c s (by omega), obS, obS, w24 _ _ (hR_len c s (by omega)), obS, decide_eq_true rfl]
    simp only [Bool.not_true, cond_false, ibne, cnot, decide_true, cdec]
    by_cases he : (hR c s).2 = 0
    · have hV : V c ∧ (-1000 ≤ s ∧ s ≤ 1000) := by
        unfold hR at he
        by_cases h1 : V c
        · rw [if_pos h1] at he
          by_cases h2 : -1000 ≤ s ∧ s ≤ 1000
          · exact ⟨h1, h2⟩
          · rw [if_neg h2] at he; exact absurd he (by decide)
        · rw [if_neg h1] at he; exact absurd (v_err.1 he) h1
      obtain ⟨h, hs⟩ := hV
      have hp := h.pos
      have hb0 := h.b _ (getD_mem 0 hp)
      have hb1 := h.b _ (getD_mem 0 (show c.length - 1 < c.length by omega))
      rw [if_pos he, w44 c (by omega), obS, if_pos ⟨by omega, by omega⟩, wrapP hp (by omega), if_pos ⟨by omega, by omega⟩, Int.toNat_natCast, if_pos h, v_err.2 h, wrapI (n := c.getD 0 0 + c.getD (c.length - 1) 0) (by omega) (by omega), wrapI (by omega) (by omega), w48 _ _ (by rw [mir_len]; omega), obS]
      have e2 : hR (mir c) (c.getD 0 0 + c.getD (c.length - 1) 0 - s) = if -1000 ≤ c.getD 0 0 + c.getD (c.length - 1) 0 - s ∧ c.getD 0 0 + c.getD (c.length - 1) 0 - s ≤ 1000 then (isort leI (c.map (hf s)), 0) else ([], 1) := by
        unfold hR
        rw [if_pos h.mir, heard_mir]
      have e1 : hR c s = (isort leI (c.map (hf s)), 0) := by unfold hR; rw [if_pos h, if_pos hs]
      rw [e2, e1]
      by_cases g : -1000 ≤ c.getD 0 0 + c.getD (c.length - 1) 0 - s ∧ c.getD 0 0 + c.getD (c.length - 1) 0 - s ≤ 1000
      · rw [if_pos g, w24 _ _ (by rw [(isort_perm _).length_eq]; simp; omega), obS, decide_eq_true rfl, sane5]; rfl
      · rw [if_neg g, sane5]; rfl
    · rw [if_neg he, sane5]; rfl
end Go.Proofs.Ytdgibokmaannjaa
