/- The sums and the differences of two rows. -/
import Derived.Test.YtdgibokmaannjaaM7
set_option linter.unusedVariables false
set_option linter.unusedSimpArgs false
namespace Go.Proofs.Ytdgibokmaannjaa
open Go Go.Pv Classical

def sums (c d : List Int) (s : Int) : List Int := c.flatMap fun a => d.map fun b => a + s * b
def sumN (c d : List Int) (s : Int) (n : Nat) : List Int := (c.take n).flatMap fun a => d.map fun b => a + s * b
theorem sumN_succ (c d : List Int) (s : Int) {n : Nat} (h : n < c.length) : sumN c d s (n + 1) = sumN c d s n ++ d.map fun b => c.getD n 0 + s * b := by
  unfold sumN
  rw [take_getD 0 h, List.flatMap_append]
  simp
theorem sumN_len (c d : List Int) (s : Int) (hc : c.length ≤ 6) (hd : d.length ≤ 6) (n : Nat) : (sumN c d s n).length ≤ 36 := by
  unfold sumN
  have : ∀ l : List Int, (l.flatMap fun a => d.map fun b => a + s * b).length = l.length * d.length := by
    intro l
    induction l with
    | nil => simp
    | cons a l ih => rw [List.flatMap_cons, List.length_append, ih, List.length_map, List.length_cons, Nat.succ_mul, Nat.add_comm]
  rw [this]
  exact Nat.le_trans (Nat.mul_le_mul (show (c.take n).length ≤ 6 by simp; omega) hd) (by omega)
theorem sums_len (c d : List Int) (s : Int) : (sums c d s).length = c.length * d.length := by
  unfold sums
  induction c with
  | nil => simp
  | cons a l ih => rw [List.flatMap_cons, List.length_append, ih, List.length_map, List.length_cons, Nat.succ_mul, Nat.add_comm]
theorem sb {c : List Int} (h : V c) {d : List Int} (h2 : V d) {a b s : Int} (ha : a ∈ c) (hb : b ∈ d) (hs : s = 1 ∨ s = -1) : -120 ≤ a + s * b ∧ a + s * b ≤ 120 := by
  have h1 := h.b a ha
  have h2 := h2.b b hb
  rcases hs with rfl | rfl <;> omega

theorem w58_in (c d x5 : List Int) (s a : Int) (out : List Int) (x6 x7 : Int) (hc : V c) (hd : V d) (ha : a ∈ c) (hs : s = 1 ∨ s = -1) (ho : out.length ≤ 100) :
    impll58_2 5000 5000 d s out a x5 x6 x7 d (d.length : Int) 0 = some (out ++ d.map (fun b => a + s * b), (d.length : Int), ()) := by
  have hl := hd.1.2
  have h := upto (fun k (t : List Int × Nat) => impll58_2 5000 k d s t.1 a x5 x6 x7 d (d.length : Int) (t.2 : Int)) (fun j => (out ++ (d.take j).map (fun b => a + s * b), j)) d.length (out ++ d.map (fun b => a + s * b), (d.length : Int), ())
    (fun k j hj => by
      show impll58_2 5000 (k + 1) d s (out ++ (d.take j).map (fun b => a + s * b)) a x5 x6 x7 d (d.length : Int) (j : Int) = _
      have hb := sb hc hd ha (getD_mem 0 hj) hs
      have hb2 := hd.b _ (getD_mem 0 hj)
      have hb3 : -60 ≤ s * d.getD j 0 ∧ s * d.getD j 0 ≤ 60 := by rcases hs with rfl | rfl <;> omega
      rw [impll58_2, implb58_2, cdec, if_pos (by omega), if_pos ⟨by omega, by omega⟩, if_pos (by simp; omega), Int.toNat_natCast, wrapI (n := s * d.getD j 0) (by omega) (by omega), wrapI (by omega) (by omega), one1, wrapS (by omega), List.append_assoc, map_snoc 0 (fun b => a + s * b) hj])
    (fun k => by
      show impll58_2 5000 (k + 1) d s (out ++ (d.take d.length).map (fun b => a + s * b)) a x5 x6 x7 d (d.length : Int) (d.length : Int) = _
      rw [impll58_2, implb58_2, cdec, if_neg (by omega), List.take_length]) 5000 0 (by omega) (Nat.zero_le _)
  simpa using h
theorem w58_0 (c d : List Int) (s : Int) (hc : V c) (hd : V d) (hs : s = 1 ∨ s = -1) : impll58_0 5000 5000 d s [] c (c.length : Int) 0 = some (sums c d s, (c.length : Int), ()) := by
  have hl := hc.1.2
  have h := upto (fun k (t : List Int × Nat) => impll58_0 5000 k d s t.1 c (c.length : Int) (t.2 : Int)) (fun j => (sumN c d s j, j)) c.length (sums c d s, (c.length : Int), ())
    (fun k j hj => by
      show impll58_0 5000 (k + 1) d s (sumN c d s j) c (c.length : Int) (j : Int) = _
      have := sumN_len c d s hc.1.2 hd.1.2 j
      have hin := w58_in c d c s (c.getD j 0) (sumN c d s j) (c.length : Int) (j : Int) hc hd (getD_mem 0 hj) hs (by omega)
      rw [impll58_0, implb58_0, cdec, if_pos (by omega), if_pos ⟨by omega, by omega⟩, Int.toNat_natCast, hin, obS, wrapS (by omega), sumN_succ c d s hj])
    (fun k => by
      show impll58_0 5000 (k + 1) d s (sumN c d s c.length) c (c.length : Int) (c.length : Int) = _
      rw [impll58_0, implb58_0, cdec, if_neg (by omega)]
      unfold sumN sums
      rw [List.take_length]) 5000 0 (by omega) (Nat.zero_le _)
  exact h
noncomputable def mdR (l : List Int) : List Int × Int := if Adj (isort leI l) then (if V (isort leI l) then (isort leI l, 0) else ([], vErr (isort leI l))) else ([], 5)
noncomputable def cmR (c d : List Int) (s : Int) : List Int × Int := if bErr c d = 0 then mdR (sums c d s) else ([], bErr c d)
theorem w85 (c : List Int) (hc : c.length ≤ 1000) : implf85 5000 c = some (if V c then (c, 0) else ([], vErr c)) := by
  unfold implf85
  rw [w32 c hc, obS, ibne, cnot, cdec]
  by_cases h : V c
  · rw [if_pos (v_err.2 h), if_pos h]
  · rw [if_neg (fun e => h (v_err.1 e)), if_neg h]
theorem w58 (c d : List Int) (s : Int) (hc : c.length ≤ 1000) (hd : d.length ≤ 1000) (hs : s = 1 ∨ s = -1) : implf58 5000 c d s = some (cmR c d s) := by
  unfold implf58 cmR
  rw [w68 c d hc hd, obS, ibne, cnot, cdec]
  show (if bErr c d = 0 then _ else some (([] : List Int), bErr c d)) = _
  by_cases h : bErr c d = 0
  · obtain ⟨h1, h2⟩ := b_err.1 h
    have hsl : (sums c d s).length ≤ 36 := by
      rw [sums_len]
      exact Nat.le_trans (Nat.mul_le_mul h1.1.2 h2.1.2) (by omega)
    have hil : (isort leI (sums c d s)).length ≤ 36 := by rw [(isort_perm _).length_eq]; exact hsl
    rw [if_pos h, if_pos h, w58_0 c d s h1 h2 hs, obS]
    show (ob (implf81 5000 (sums c d s)) fun y3 => _) = _
    rw [w81 _ (by omega), obS, w83 _ (by omega), obS, w89 _ (by omega), obS, cdec]
    have hcl := compact_len (isort leI (sums c d s))
    unfold mdR
    by_cases g : Adj (isort leI (sums c d s))
    · have := hcl.2.2 g
      rw [if_neg (by omega), if_pos g, w85 _ (by omega), obS]
    · have h3 : ¬ (compactI (isort leI (sums c d s))).length = (isort leI (sums c d s)).length := fun e => g (hcl.2.1 e)
      have h4 := hcl.1
      rw [if_pos (by omega), if_neg g]
  · rw [if_neg h, if_neg h]
theorem adj_nodup {s : List Int} (hs : Srt s) : Adj s ↔ s.Nodup := by
  rw [List.nodup_iff_pairwise_ne, List.pairwise_iff_getElem]
  have hsrt := List.pairwise_iff_getElem.1 hs
  have gd : ∀ i (h : i < s.length), s.getD i 0 = s[i] := fun i h => by simp [List.getD, h]
  constructor
  · intro h i j hi hj hij e
    have h1 := h (i + 1) (by omega) (by omega)
    rw [Nat.add_sub_cancel, gd _ (by omega), gd _ hi] at h1
    have h2 := of_decide_eq_true (hsrt i (i + 1) hi (by omega) (by omega))
    by_cases hj1 : i + 1 = j
    · subst hj1; exact h1 e.symm
    · have h3 := of_decide_eq_true (hsrt (i + 1) j (by omega) hj (by omega))
      omega
  · intro h i h1 h2 e
    rw [gd _ h2, gd _ (by omega)] at e
    exact h (i - 1) i (by omega) h2 (by omega) e.symm
theorem inc_nodup {c : List Int} (h : c.Pairwise (fun a b => a < b)) : c.Nodup := List.nodup_iff_pairwise_ne.2 (h.imp fun h e => by omega)
theorem prs_sums (c d : List Int) (s : Int) : prs (sums c d s) = c.flatMap fun a => d.flatMap fun b => c.flatMap fun a' => d.flatMap fun b' => [(a + s * b) - (a' + s * b')] := by
  unfold prs sums
  simp only [fm_fm, fm_map]
theorem prs_home (c d : List Int) : (prs (sums c d 1)).Perm (prs (sums c d (-1))) := by
  rw [prs_sums, prs_sums]
  refine fm_congr fun a _ => ?_
  have e : (d.flatMap fun b => c.flatMap fun a' => d.flatMap fun b' => [(a + -1 * b) - (a' + -1 * b')]) = d.flatMap fun b => c.flatMap fun a' => d.flatMap fun b' => [(a + 1 * b') - (a' + 1 * b)] := by
    congr 1; funext b; congr 1; funext a'; congr 1; funext b'
    congr 1; omega
  rw [e]
  refine fm_swap.trans (List.Perm.trans ?_ fm_swap)
  exact fm_congr fun a' _ => fm_swap
end Go.Proofs.Ytdgibokmaannjaa
