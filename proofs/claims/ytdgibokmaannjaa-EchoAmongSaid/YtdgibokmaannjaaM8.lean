/- The sums and the differences of two rows. -/
import Derived.Test.YtdgibokmaannjaaM7
set_option linter.unusedVariables false
set_option linter.unusedSimpArgs false
namespace Go.Proofs.Ytdgibokmaannjaa
open Go Go.Pv Classical

def sums (c d : List Int) (s : Int) : List Int := c.flatMap fun a => d.map fun b => a + s * b
def sumN (c d : List Int) (s : Int) (n : Nat) : List Int := (c.take n).flatMap fun a => d.map fun b => a + s * b
theorem sumN_succ (c d : List Int) (s : Int) {n : Nat} (h : n < c.length) : sumN c d s (n + 1) = sumN c d s n ++ d.map fun b => c.getD n 0 + s * b := by
  unfold sumN
  rw [take_getD 0 h, List.flatMap_append]
  simp
theorem sumN_len (c d : List Int) (s : Int) (hc : c.length ≤ 6) (hd : d.length ≤ 6) (n : Nat) : (sumN c d s n).length ≤ 36 := by
  unfold sumN
  have : ∀ l : List Int, (l.flatMap fun a => d.map fun b => a + s * b).length = l.length * d.length := by
    intro l
    induction l with
    | nil => simp
    | cons a l ih => rw [List.flatMap_cons, List.length_append, ih, List.length_map, List.length_cons, Nat.succ_mul, Nat.add_comm]
  rw [this]
  exact Nat.le_trans (Nat.mul_le_mul (show (c.take n).length ≤ 6 by simp; omega) hd) (by omega)
theorem sums_len (c d : List Int) (s : Int) : (sums c d s).length = c.length * d.length := by
  unfold sums
  induction c with
  | nil => simp
  | cons a l ih => rw [List.flatMap_cons, List.length_append, ih, List.length_map, List.length_cons, Nat.succ_mul, Nat.add_comm]
theorem sb {c : List Int} (h : V c) {d : List Int} (h2 : V d) {a b s : Int} (ha : a ∈ c) (hb : b ∈ d) (hs : s = 1 ∨ s = -1) : -120 ≤ a + s * b ∧ a + s * b ≤ 120 := by
  have h1 := h.b a ha
  have h2 := h2.b b hb
  rcases hs with rfl | rfl <;> omega

theorem w58_in (c d x5 : List Int) (s a : Int) (out : List Int) (x6 x7 : Int) (hc : V c) (hd : V d) (ha : a ∈ c) (hs : s = 1 ∨ s = -1) (ho : out.length ≤ 100) :
    impll58_2 5000 5000 d s out a x5 x6 x7 d (d.length : Int) 0 = some (out ++ d.map (fun b => a + s * b), (d.length : Int), ()) := by
  have hl := hd.1.2
  have h := upto (fun k (t : List Int × Nat) => impll58_2 5000 k d s t.1 a x5 x6 x7 d (d.length : Int) (t.2 : Int)) (fun j => (out ++ (d.take j).map (fun b => a + s * b), j)) d.length (out ++ d.map (fun b => a + s * b), (d.length : Int), ())
    (fun k j hj => by
      show impll58_2 5000 (k + 1) d s (out ++ (d.take j).map (fun b => a + s * b)) a x5 x6 x7 d (d.length : Int) (j : Int) = _
      have hb := sb hc hd ha (getD_mem 0 hj) hs
      have hb2 := hd.b _ (getD_mem 0 hj)
      have hb3 : -60 ≤ s * d.getD j 0 ∧ s * d.getD j 0 ≤ 60 := by rcases hs with rfl | rfl <;> omega
      rw [impll58_2, implb58_2, cdec, if_pos (by omega), if_pos ⟨by omega, by omega⟩, if_pos (by simp; omega), Int.toNat_natCast, wrapI (n := s * d.getD j 0) (by omega) (by omega), wrapI (by omega) (by omega), one1, wrapS (by omega), List.append_assoc, map_snoc 0 (fun b => a + s * b) hj])
    (fun k => by
      show impll58_2 5000 (k + 1) d s (out ++ (d.take d.length).map (fun b => a + s * b)) a x5 x6 x7 d (d.length : Int) (d.length : Int) = _
      rw [impll58_2, implb58_2, cdec, if_neg (by omega), List.take_length]) 5000 0 (by omega) (Nat.zero_le _)
  simpa using h
theorem w58_0 (c d : List Int) (s : Int) (hc : V c) (hd : V d) (hs : s = 1 ∨ s = -1) : impll58_0 5000 5000 d s [] c (c.length : Int) 0 = some (sums c d s, (c.length : Int), ()) := by
  have hl := hc.1.2
  have h := upto (fun k (t : List Int × Nat) => impll58_0 5000 k d s t.1 c (c.length : Int) (t.2 : Int)) (fun j => (sumN c d s j, j)) c.length (sums c d s, (c.length : Int), ())
    (fun k j hj => by
      show impll58_0 5000 (k + 1) d s (sumN c d s j) c (c.length : Int) (j : Int) = _
      have := sumN_len c d s hc.1.2 hd.1.2 j
      have hin := w58_in c d c s (c.getD j 0) (sumN c d s j) (c.length : Int) (j : Int) hc hd (getD_mem 0 hj) hs (by omega)
      rw [impll58_0, implb58_0, cdec, if_pos (by omega), if_pos ⟨by omega, by omega⟩, Int.toNat_natCast, hin, obS, wrapS (by omega), sumN_succ c d s hj])
    (fun k => by
      show impll58_0 5000 (k + 1) d s (sumN c d s c.length) c (c.length : Int) (c.length : Int) = _
      rw [impll58_0, implb58_0, cdec, if_neg (by omega)]
      unfold sumN sums
      rw [List.take_length]) 5000 0 (by omega) (Nat.zero_le _)
  exact h
noncomputable def mdR (l : List Int) : List Int × Int := if Adj (isort leI l) then (if V (isort leI l) then (isort leI l, 0) else ([], vErr (isort leI l))) else ([], 5)
noncomputable def cmR (c d : List Int) (s : Int) : List Int × Int := if bErr c d = 0 then mdR (sums c d s) else ([], bErr c d)
theorem w85 (c : List Int) (hc : c.length ≤ 1000) : implf85 5000 c = some (if V c then (c, 0) else ([], vErr c)) := by
  unfold implf85
  rw [w32 c hc, obS, ibne, cnot, cdec]
  by_cases h : V c
  · rw [if_pos (v_err.2 h), if_pos h]
  · rw [if_neg (fun e => h (v_err.1 e)), if_neg h]
theorem w58 (c d : List Int) (s : Int) (hc : c.length ≤ 1000) (hd : d.length ≤ 1000) (hs : s = 1 ∨ s = -1) : implf58 5000 c d s = some (cmR c d s) := by
  unfold implf58 cmR
  rw [w68 c d hc hd, obS, ibne, cnot, cdec]
  show (if bErr c d = 0 then _ else some (([] : List Int), bErr c d)) = _
  by_cases h : bErr c d = 0
  · obtain ⟨h1, h2⟩ := b_err.1 h
    have hsl : (sums c d s).length ≤ 36 := by
      rw [sums_len]
      exact Nat.le_trans (Nat.mul_le_mul h1.1.2 h2.1.2) (by omega)
    have hil : (isort leI (sums c d s)).length ≤ 36 := by rw [(isort_perm _).length_eq]; exact hsl
    rw [if_pos h, if_pos h, w58_0 c d s h1 h2 hs, obS]
    show (ob (implf81 5000 (sums c d s)) fun y3 => _) = _
    rw [w81 _ (by omega), obS, w83 _ (by omega), obS, w89 _ (by omega), obS, cdec]
    have hcl := compact_len (isort leI (sums c d s))
    unfold mdR
    by_cases g : Adj (isort leI (sums c d s))
    · have := hcl.2.2 g
      rw [if_neg (by omega), if_pos g, w85 _ (by omega), obS]
    · have h3 : ¬ (compactI (isort leI (sums c d s))).length = (isort leI (sums c d s)).length := fun e => g (hcl.2.1 e)
      have h4 := hcl.1
      rw [if_pos (by omega), if_neg g]
  · rw [if_neg h, if_neg h]
theorem w60 (l : List Int) (hl : l.length ≤ 100) : implf60 5000 l = some (mdR l) := by
  unfold implf60 mdR
  rw [w82 l hl, obS]
  have hd : (isort leI l).length ≤ 100 := by rw [(isort_perm _).length_eq]; exact hl
  generalize isort leI l = d at hd ⊢
  have rest : (ob (implf33 5000 d) fun y4 => (bif y4 != (0 : Int) then some (([] : List Int), y4) else some (d, (0 : Int)))) = some (if V d then (d, 0) else ([], vErr d)) := by
    rw [w33 d (by omega), obS, ibne, cnot, cdec]
    by_cases h : V d
    · rw [if_pos (v_err.2 h), if_pos h]
    · rw [if_neg (fun e => h (v_err.1 e)), if_neg h]
  by_cases h0 : d.length = 0
  · rw [show (5000 : Nat) = 4999 + 1 from rfl, impll60_0, implb60_0, cdec, if_neg (by omega), obS]
    have hA : Adj d := fun i h1 h2 => by omega
    rw [if_pos hA]
    exact rest
  · have h := uptoAll (fun k (j : Nat) => impll60_0 5000 k d ((j + 1 : Nat) : Int)) (fun j => j) (d.length - 1) (fun j => d.getD (j + 1) 0 ≠ d.getD j 0) (.inl ((d.length : Int), ())) (.inr ([], 5, ()))
      (fun k j hj hp => by
        show impll60_0 5000 (k + 1) d ((j + 1 : Nat) : Int) = _
        rw [impll60_0, implb60_0, cdec, if_pos (by omega), if_pos ⟨by omega, by omega⟩, wrapP (by omega) (by omega), if_pos ⟨by omega, by omega⟩, ibeq, cdec, Int.toNat_natCast, Int.toNat_natCast, Nat.add_sub_cancel, if_neg hp, wrapS (by omega)])
      (fun k j hj hp => by
        show impll60_0 5000 (k + 1) d ((j + 1 : Nat) : Int) = _
        rw [impll60_0, implb60_0, cdec, if_pos (by omega), if_pos ⟨by omega, by omega⟩, wrapP (by omega) (by omega), if_pos ⟨by omega, by omega⟩, ibeq, cdec, Int.toNat_natCast, Int.toNat_natCast, Nat.add_sub_cancel, if_pos (Classical.not_not.1 hp)])
      (fun k => by
        show impll60_0 5000 (k + 1) d ((d.length - 1 + 1 : Nat) : Int) = _
        rw [impll60_0, implb60_0, cdec, if_neg (by omega)]
        congr 4; omega) 5000 0 (by omega) (by omega)
    have h : impll60_0 5000 5000 d 1 = _ := h
    rw [h, obS]
    by_cases g : Adj d
    · rw [if_pos ((adj_iff d).2 g), if_pos g]; exact rest
    · rw [if_neg (fun h => g ((adj_iff d).1 h)), if_neg g]
theorem w21_in (c d : List Int) (i : Nat) (out : List Int) (hc : V c) (hd : V d) (hi : i < c.length) (ho : out.length ≤ 100) :
    impll21_2 5000 5000 c d out (i : Int) 0 = some (out ++ d.map (fun b => c.getD i 0 + 1 * b), (d.length : Int), ()) := by
  have hl := hd.1.2
  have h := upto (fun k (t : List Int × Nat) => impll21_2 5000 k c d t.1 (i : Int) (t.2 : Int)) (fun j => (out ++ (d.take j).map (fun b => c.getD i 0 + 1 * b), j)) d.length (out ++ d.map (fun b => c.getD i 0 + 1 * b), (d.length : Int), ())
    (fun k j hj => by
      show impll21_2 5000 (k + 1) c d (out ++ (d.take j).map (fun b => c.getD i 0 + 1 * b)) (i : Int) (j : Int) = _
      have hb := sb hc hd (getD_mem 0 hi) (getD_mem 0 hj) (.inl rfl)
      have e : c.getD i 0 + d.getD j 0 = c.getD i 0 + 1 * d.getD j 0 := by omega
      rw [impll21_2, implb21_2, cdec, if_pos (by omega), if_pos ⟨by omega, by omega⟩, if_pos ⟨by omega, by omega⟩, if_pos (by simp; omega), Int.toNat_natCast, Int.toNat_natCast, e, wrapI (by omega) (by omega), one1, wrapS (by omega), List.append_assoc, map_snoc 0 (fun b => c.getD i 0 + 1 * b) hj])
    (fun k => by
      show impll21_2 5000 (k + 1) c d (out ++ (d.take d.length).map (fun b => c.getD i 0 + 1 * b)) (i : Int) (d.length : Int) = _
      rw [impll21_2, implb21_2, cdec, if_neg (by omega), List.take_length]) 5000 0 (by omega) (Nat.zero_le _)
  simpa using h
theorem w21 (c d : List Int) (hc : c.length ≤ 1000) (hd : d.length ≤ 1000) : implf21 5000 c d = some (cmR c d 1) := by
  unfold implf21 cmR
  rw [w59 c d hc hd, obS, ibne, cnot, cdec]
  show (if bErr c d = 0 then _ else some (([] : List Int), bErr c d)) = _
  by_cases h : bErr c d = 0
  · obtain ⟨h1, h2⟩ := b_err.1 h
    have hl6 := h1.1.2
    have hsl : (sums c d 1).length ≤ 36 := by
      rw [sums_len]
      exact Nat.le_trans (Nat.mul_le_mul h1.1.2 h2.1.2) (by omega)
    have hh := upto (fun k (t : List Int × Nat) => impll21_0 5000 k c d t.1 (t.2 : Int)) (fun j => (sumN c d 1 j, j)) c.length (sums c d 1, (c.length : Int), ())
      (fun k j hj => by
        show impll21_0 5000 (k + 1) c d (sumN c d 1 j) (j : Int) = _
        have := sumN_len c d 1 h1.1.2 h2.1.2 j
        rw [impll21_0, implb21_0, cdec, if_pos (by omega), w21_in c d j _ h1 h2 hj (by omega), obS, wrapS (by omega), sumN_succ c d 1 hj])
      (fun k => by
        show impll21_0 5000 (k + 1) c d (sumN c d 1 c.length) (c.length : Int) = _
        rw [impll21_0, implb21_0, cdec, if_neg (by omega)]
        unfold sumN sums
        rw [List.take_length]) 5000 0 (by omega) (Nat.zero_le _)
    have hh : impll21_0 5000 5000 c d [] 0 = _ := hh
    rw [if_pos h, if_pos h, hh, obS]
    show (ob (implf60 5000 (sums c d 1)) fun y3 => _) = _
    rw [w60 _ (by omega), obS]
  · rw [if_neg h, if_neg h]
theorem w23_in (c d : List Int) (i : Nat) (out : List Int) (hc : V c) (hd : V d) (hi : i < c.length) (ho : out.length ≤ 100) :
    impll23_2 5000 5000 c d out (i : Int) 0 = some (out ++ d.map (fun b => c.getD i 0 + -1 * b), (d.length : Int), ()) := by
  have hl := hd.1.2
  have h := upto (fun k (t : List Int × Nat) => impll23_2 5000 k c d t.1 (i : Int) (t.2 : Int)) (fun j => (out ++ (d.take j).map (fun b => c.getD i 0 + -1 * b), j)) d.length (out ++ d.map (fun b => c.getD i 0 + -1 * b), (d.length : Int), ())
    (fun k j hj => by
      show impll23_2 5000 (k + 1) c d (out ++ (d.take j).map (fun b => c.getD i 0 + -1 * b)) (i : Int) (j : Int) = _
      have hb := sb hc hd (getD_mem 0 hi) (getD_mem 0 hj) (.inr rfl)
      have e : c.getD i 0 - d.getD j 0 = c.getD i 0 + -1 * d.getD j 0 := by omega
      rw [impll23_2, implb23_2, cdec, if_pos (by omega), if_pos ⟨by omega, by omega⟩, if_pos ⟨by omega, by omega⟩, if_pos (by simp; omega), Int.toNat_natCast, Int.toNat_natCast, e, wrapI (by omega) (by omega), one1, wrapS (by omega), List.append_assoc, map_snoc 0 (fun b => c.getD i 0 + -1 * b) hj])
    (fun k => by
      show impll23_2 5000 (k + 1) c d (out ++ (d.take d.length).map (fun b => c.getD i 0 + -1 * b)) (i : Int) (d.length : Int) = _
      rw [impll23_2, implb23_2, cdec, if_neg (by omega), List.take_length]) 5000 0 (by omega) (Nat.zero_le _)
  simpa using h
theorem w23 (c d : List Int) (hc : c.length ≤ 1000) (hd : d.length ≤ 1000) : implf23 5000 c d = some (cmR c d (-1)) := by
  unfold implf23 cmR
  rw [w59 c d hc hd, obS, ibne, cnot, cdec]
  show (if bErr c d = 0 then _ else some (([] : List Int), bErr c d)) = _
  by_cases h : bErr c d = 0
  · obtain ⟨h1, h2⟩ := b_err.1 h
    have hl6 := h1.1.2
    have hsl : (sums c d (-1)).length ≤ 36 := by
      rw [sums_len]
      exact Nat.le_trans (Nat.mul_le_mul h1.1.2 h2.1.2) (by omega)
    have hh := upto (fun k (t : List Int × Nat) => impll23_0 5000 k c d t.1 (t.2 : Int)) (fun j => (sumN c d (-1) j, j)) c.length (sums c d (-1), (c.length : Int), ())
      (fun k j hj => by
        show impll23_0 5000 (k + 1) c d (sumN c d (-1) j) (j : Int) = _
        have := sumN_len c d (-1) h1.1.2 h2.1.2 j
        rw [impll23_0, implb23_0, cdec, if_pos (by omega), w23_in c d j _ h1 h2 hj (by omega), obS, wrapS (by omega), sumN_succ c d (-1) hj])
      (fun k => by
        show impll23_0 5000 (k + 1) c d (sumN c d (-1) c.length) (c.length : Int) = _
        rw [impll23_0, implb23_0, cdec, if_neg (by omega)]
        unfold sumN sums
        rw [List.take_length]) 5000 0 (by omega) (Nat.zero_le _)
    have hh : impll23_0 5000 5000 c d [] 0 = _ := hh
    rw [if_pos h, if_pos h, hh, obS]
    show (ob (implf60 5000 (sums c d (-1))) fun y3 => _) = _
    rw [w60 _ (by omega), obS]
  · rw [if_neg h, if_neg h]

/-! ### Twice among the sums, twice among the differences -/
theorem adj_nodup {s : List Int} (hs : Srt s) : Adj s ↔ s.Nodup := by
  rw [List.nodup_iff_pairwise_ne, List.pairwise_iff_getElem]
  have hsrt := List.pairwise_iff_getElem.1 hs
  have gd : ∀ i (h : i < s.length), s.getD i 0 = s[i] := fun i h => by simp [List.getD, h]
  constructor
  · intro h i j hi hj hij e
    have h1 := h (i + 1) (by omega) (by omega)
    rw [Nat.add_sub_cancel, gd _ (by omega), gd _ hi] at h1
    have h2 := of_decide_eq_true (hsrt i (i + 1) hi (by omega) (by omega))
    by_cases hj1 : i + 1 = j
    · subst hj1; exact h1 e.symm
    · have h3 := of_decide_eq_true (hsrt (i + 1) j (by omega) hj (by omega))
      omega
  · intro h i h1 h2 e
    rw [gd _ h2, gd _ (by omega)] at e
    exact h (i - 1) i (by omega) h2 (by omega) e.symm
theorem inc_nodup {c : List Int} (h : c.Pairwise (fun a b => a < b)) : c.Nodup := List.nodup_iff_pairwise_ne.2 (h.imp fun h e => by omega)
theorem sums_twice {c d : List Int} (hd : d.Nodup) : (sums c d 1).Nodup ↔ (sums c d (-1)).Nodup := by
  unfold sums
  rw [List.nodup_iff_pairwise_ne, List.nodup_iff_pairwise_ne, List.pairwise_flatMap, List.pairwise_flatMap]
  have hin : ∀ s : Int, s = 1 ∨ s = -1 → ∀ a ∈ c, (d.map fun b => a + s * b).Pairwise (fun a b => a ≠ b) := by
    intro s hs a _
    rw [List.pairwise_map]
    refine (List.nodup_iff_pairwise_ne.1 hd).imp fun h e => h ?_
    rcases hs with rfl | rfl <;> omega
  have hout : ∀ s t : Int, s = 1 ∧ t = -1 ∨ s = -1 ∧ t = 1 → (c.Pairwise fun a1 a2 => ∀ x ∈ d.map (fun b => a1 + s * b), ∀ y ∈ d.map (fun b => a2 + s * b), x ≠ y) → c.Pairwise fun a1 a2 => ∀ x ∈ d.map (fun b => a1 + t * b), ∀ y ∈ d.map (fun b => a2 + t * b), x ≠ y := by
    intro s t hst h
    refine h.imp fun {a1 a2} h x hx y hy e => ?_
    obtain ⟨b1, hb1, rfl⟩ := List.mem_map.1 hx
    obtain ⟨b2, hb2, rfl⟩ := List.mem_map.1 hy
    refine h _ (List.mem_map.2 ⟨b2, hb2, rfl⟩) _ (List.mem_map.2 ⟨b1, hb1, rfl⟩) ?_
    rcases hst with ⟨rfl, rfl⟩ | ⟨rfl, rfl⟩ <;> omega
  exact ⟨fun h => ⟨hin _ (.inr rfl), hout 1 (-1) (.inl ⟨rfl, rfl⟩) h.2⟩, fun h => ⟨hin _ (.inl rfl), hout (-1) 1 (.inr ⟨rfl, rfl⟩) h.2⟩⟩
theorem vErr5 (c : List Int) : vErr c ≠ 5 := by
  unfold vErr
  split
  · split <;> decide
  · decide
theorem mdR5 (l : List Int) : (mdR l).2 = 5 ↔ ¬ l.Nodup := by
  unfold mdR
  rw [adj_nodup (isort_sorted leI_tr leI_to l), (isort_perm (le := leI) l).nodup_iff]
  by_cases h : l.Nodup
  · rw [if_pos h]
    refine ⟨fun e => ?_, fun e => absurd h e⟩
    split at e
    · have e : (0 : Int) = 5 := e
      exact absurd e (by decide)
    · exact absurd e (vErr5 _)
  · rw [if_neg h]
    exact ⟨fun _ => h, fun _ => rfl⟩
theorem cmR5 (c d : List Int) : ((cmR c d 1).2 = 5 ↔ (cmR c d (-1)).2 = 5) := by
  unfold cmR
  by_cases h : bErr c d = 0
  · rw [if_pos h, if_pos h, mdR5, mdR5, sums_twice (inc_nodup (b_err.1 h).2.inc)]
  · rw [if_neg h, if_neg h]
theorem cmR_len (c d : List Int) (s : Int) : (cmR c d s).1.length ≤ 1000 := by
  unfold cmR
  by_cases h : bErr c d = 0
  · rw [if_pos h]
    obtain ⟨h1, h2⟩ := b_err.1 h
    unfold mdR
    split
    · split
      · show (isort leI (sums c d s)).length ≤ 1000
        rw [(isort_perm _).length_eq, sums_len]
        exact Nat.le_trans (Nat.mul_le_mul h1.1.2 h2.1.2) (by omega)
      · simp
    · simp
  · rw [if_neg h]; simp
theorem sums_all (c d : List Int) : implf3 5000 c d = some true := by
  unfold implf3
  rw [long2, obS, cdec]
  by_cases hl : 100 < c.length ∨ 100 < d.length
  · rw [if_pos hl, sane5]; rfl
  · rw [if_neg hl, w58 c d 1 (by omega) (by omega) (.inl rfl), w21 c d (by omega) (by omega), w58 c d (-1) (by omega) (by omega) (.inr rfl), w23 c d (by omega) (by omega)]
    simp only [obS, w24 _ _ (cmR_len _ _ _), ibeq, decide_true, cond_true, sane5]
    have h := cmR5 c d
    have : (decide ((cmR c d 1).2 = 5) == decide ((cmR c d (-1)).2 = 5)) = true := by
      by_cases g : (cmR c d 1).2 = 5
      · rw [decide_eq_true g, decide_eq_true (h.1 g)]; rfl
      · rw [decide_eq_false g, decide_eq_false (fun e => g (h.2 e))]; rfl
    rw [this]; rfl

/-! ### The same delays -/
theorem prs_sums (c d : List Int) (s : Int) : prs (sums c d s) = c.flatMap fun a => d.flatMap fun b => c.flatMap fun a' => d.flatMap fun b' => [(a + s * b) - (a' + s * b')] := by
  unfold prs sums
  simp only [fm_fm, fm_map]
theorem prs_home (c d : List Int) : (prs (sums c d 1)).Perm (prs (sums c d (-1))) := by
  rw [prs_sums, prs_sums]
  refine fm_congr fun a _ => ?_
  have e : (d.flatMap fun b => c.flatMap fun a' => d.flatMap fun b' => [(a + -1 * b) - (a' + -1 * b')]) = d.flatMap fun b => c.flatMap fun a' => d.flatMap fun b' => [(a + 1 * b') - (a' + 1 * b)] := by
    congr 1; funext b; congr 1; funext a'; congr 1; funext b'
    congr 1; omega
  rw [e]
  refine fm_swap.trans (List.Perm.trans ?_ fm_swap)
  exact fm_congr fun a' _ => fm_swap
theorem homes_all (c d : List Int) : implf5 5000 c d = some true := by
  unfold implf5
  rw [long2, obS, cdec]
  by_cases hl : 100 < c.length ∨ 100 < d.length
  · rw [if_pos hl, sane5]; rfl
  · rw [if_neg hl, w58 c d 1 (by omega) (by omega) (.inl rfl), w58 c d (-1) (by omega) (by omega) (.inr rfl), obS, obS, ibne, cnot, cdec]
    have key : ∀ s, (cmR c d s).2 = 0 → bErr c d = 0 ∧ V (isort leI (sums c d s)) ∧ cmR c d s = (isort leI (sums c d s), 0) := by
      intro s h
      unfold cmR at h ⊢
      by_cases hb : bErr c d = 0
      · rw [if_pos hb] at h ⊢
        unfold mdR at h ⊢
        by_cases hA : Adj (isort leI (sums c d s))
        · rw [if_pos hA] at h ⊢
          by_cases hV : V (isort leI (sums c d s))
          · rw [if_pos hV]; exact ⟨hb, hV, rfl⟩
          · rw [if_neg hV] at h; exact absurd (v_err.1 h) hV
        · rw [if_neg hA] at h; exact absurd h (by decide)
      · rw [if_neg hb] at h; exact absurd h hb
    by_cases h1 : (cmR c d 1).2 = 0
    · rw [if_pos h1, ibne, cnot, cdec]
      by_cases h2 : (cmR c d (-1)).2 = 0
      · obtain ⟨hb, hV1, e1⟩ := key 1 h1
        obtain ⟨_, hV2, e2⟩ := key (-1) h2
        obtain ⟨hc, hd⟩ := b_err.1 hb
        have hD : D (isort leI (sums c d 1)) = D (isort leI (sums c d (-1))) :=
          D_of hV1.inc hV2.inc (posD_perm ((prs_perm (isort_perm _)).trans ((prs_home c d).trans (prs_perm (isort_perm _).symm))))
        have hc6 := hc.1.2
        have hd6 := hd.1.2
        have hm : c.length * d.length ≤ 6 * 6 := Nat.mul_le_mul hc6 hd6
        have hmi : (c.length : Int) * (d.length : Int) = ((c.length * d.length : Nat) : Int) := by rw [Int.natCast_mul]
        rw [if_pos h2, e1, e2, w28 (isort leI (sums c d 1)) (isort leI (sums c d (-1))) (by have := hV1.1.2; omega) (by have := hV2.1.2; omega), obS, if_pos ⟨hV1, hV2⟩, decide_eq_true hD, b_err.2 ⟨hV1, hV2⟩, hmi, wrapI (by omega) (by omega), (isort_perm _).length_eq, sums_len, ibeq, ibeq, decide_eq_true rfl, decide_eq_true rfl, sane5]; rfl
      · rw [if_neg h2, sane5]; rfl
    · rw [if_neg h1, sane5]; rfl
end Go.Proofs.Ytdgibokmaannjaa
