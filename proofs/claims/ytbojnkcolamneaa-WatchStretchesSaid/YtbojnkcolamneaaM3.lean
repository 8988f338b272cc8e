/- Which shifts run at a moment; the shifts in an order. -/
import Derived.Test.YtbojnkcolamneaaM2
set_option linter.unusedVariables false
set_option linter.unusedSimpArgs false
namespace Go.Proofs.Ytbojnkcolamneaa
open Go Go.Pv Classical

/-- A loop over a list. -/
theorem foldTo {τ β ρ : Type} (l : Nat → Nat → τ → Option ρ) (ys : List β) (d : β) (f : τ → β → τ) (I : Nat → τ → Prop) (r : τ → ρ)
    (hs : ∀ k j t, j < ys.length → I j t → l (k + 1) j t = l k (j + 1) (f t (ys.getD j d)) ∧ I (j + 1) (f t (ys.getD j d)))
    (he : ∀ k t, I ys.length t → l (k + 1) ys.length t = some (r t)) :
    ∀ k j t, ys.length - j < k → j ≤ ys.length → I j t → l k j t = some (r ((ys.drop j).foldl f t)) ∧ I ys.length ((ys.drop j).foldl f t)
  | 0, j, t, hk, _, _ => by omega
  | k + 1, j, t, hk, hj, hI => by
    by_cases h : j < ys.length
    · obtain ⟨h1, h2⟩ := hs k j t h hI
      rw [h1, drop_getD d h, List.foldl_cons]
      exact foldTo l ys d f I r hs he k (j + 1) _ (by omega) (by omega) h2
    · have : j = ys.length := by omega
      subst this
      rw [List.drop_length]
      exact ⟨he k t hI, hI⟩

/-- How many shifts run. -/
def cnt (l : List Shf) (m : Int) : Nat := l.countP fun s => runsB s m
theorem runsB_iff {s : Shf} {m : Int} : runsB s m = true ↔ rn s m := by simp [runsB, rn]
theorem atN_length (l : List Shf) (m : Int) : ∀ k, k ≤ l.length → (atN l m k).length = (l.take k).countP fun s => runsB s m
  | 0, _ => by simp [atN]
  | k + 1, h => by
    rw [take_getD z3 (by omega), List.countP_append, ← atN_length l m k (by omega), atN]
    have e : l.getD k ((0 : Int), (0 : Int), (0 : Int)) = l.getD k z3 := rfl
    rw [e]
    generalize l.getD k z3 = y
    cases hr : runsB y m <;> simp [hr]
theorem atN_cnt (l : List Shf) (m : Int) : (atN l m l.length).length = cnt l m := by
  rw [atN_length l m _ (Nat.le_refl _), List.take_length]; rfl
theorem cnt_le (l : List Shf) (m : Int) : cnt l m ≤ l.length := List.countP_le_length
theorem cnt_out {l : List Shf} (hl : ∀ s ∈ l, okS s) {m : Int} (hm : m < 0 ∨ 1000 ≤ m) : cnt l m = 0 := by
  unfold cnt
  rw [List.countP_eq_zero]
  intro s hs h
  have h := runsB_iff.1 h
  have := hl s hs
  unfold rn okS at *
  omega
theorem foldl_wrap {α : Type} : ∀ (xs : List α) (n : Int), 0 ≤ n → n + xs.length ≤ 1000000 → List.foldl (fun (n : Int) _ => IntKind.i64.wrap (n + 1)) n xs = n + xs.length
  | [], n, _, _ => by simp
  | x :: xs, n, h0, h => by
    rw [List.foldl_cons, wrapI (by simp at h; omega) (by simp at h; omega), foldl_wrap xs (n + 1) (by omega) (by simp at h; omega)]
    simp
    omega

theorem f80 (K : Nat) (l : List Shf) (hl : l.length ≤ 12) (hK : 12 < K) (m : Int) : implf80 K l m = some (atN l m l.length) := by
  unfold implf80
  have := upto (fun k (s : List Int × Nat) => impll80_0 K k l m s.1 (s.2 : Int)) (fun j => (atN l m j, j)) l.length (atN l m l.length, (l.length : Int), ())
    (fun k j hj => by
      show impll80_0 K (k + 1) l m (atN l m j) j = impll80_0 K k l m (atN l m (j + 1)) ((j + 1 : Nat) : Int)
      rw [impll80_0, implb80_0]
      simp only [cdec, f83, obS]
      have hle := atN_len l m j
      have e : l.getD (j : Int).toNat ((0 : Int), (0 : Int), (0 : Int)) = l.getD j (0, 0, 0) := rfl
      rw [if_pos (by omega), if_pos (by omega), wrapS (by omega), e]
      by_cases h : rn (l.getD j (0, 0, 0)) m
      · rw [if_pos h, if_pos (by simp; omega), atN_yes (runsB_iff.2 h)]
        rfl
      · rw [if_neg h, atN_no (by
          cases hb : runsB (l.getD j (0, 0, 0)) m with
          | true => exact absurd (runsB_iff.1 hb) h
          | false => rfl)])
    (fun k => by
      show impll80_0 K (k + 1) l m (atN l m l.length) l.length = _
      rw [impll80_0, implb80_0]
      simp only [cdec]
      rw [if_neg (by omega)]) K 0 (by omega) (Nat.zero_le _)
  have this : impll80_0 K K l m [] (0 : Int) = _ := this
  rw [this]
  rfl

noncomputable def run (l : List Shf) (m : Int) : List Int × Int := if er l ≠ 0 then ([], er l) else if 0 ≤ m ∧ m ≤ 1000 then (atN l m l.length, 0) else ([], 1)
theorem f34 (K : Nat) (hK : 12 < K) (l : List Shf) (hl : ∀ s ∈ l, inS s) (m : Int) : implf34 K l m = some (run l m) := by
  unfold implf34 run
  rw [f31 K hK l hl]
  simp only [obS, ibne, cdec, cnot, w60]
  by_cases h : er l = 0
  · have hV := er_ok.1 h
    have hb : l.length.ble 1000 = true := by rw [Nat.ble_eq]; have := hV.1; omega
    simp only [h, ne_eq, not_true_eq_false, if_false, if_true, hb, cond_true, List.map_id']
    by_cases g : 0 ≤ m ∧ m ≤ 1000
    · rw [if_pos g, if_pos g]
    · rw [if_neg g, if_neg g]
  · simp only [h, ne_eq, not_false_eq_true, if_true, if_false]
theorem f35 (K : Nat) (hK : 12 < K) (l : List Shf) (m : Int) : implf35 K l m = some (run l m) := by
  unfold implf35 run
  rw [f25 K hK l]
  simp only [obS, ibne, cdec, cnot, w65]
  by_cases h : er l = 0
  · have hV := er_ok.1 h
    simp only [h, ne_eq, not_true_eq_false, if_false, if_true]
    by_cases g : 0 ≤ m ∧ m ≤ 1000
    · rw [if_pos g, if_pos g, f80 K l hV.1 hK, obS]
    · rw [if_neg g, if_neg g]
  · simp only [h, ne_eq, not_false_eq_true, if_true, if_false]

theorem f36_same (K : Nat) (x : List Int) (hx : x.length < K) (hb : x.length ≤ 1000000) : implf36 K x x = some true := by
  unfold implf36
  simp only [ibne, cdec, cnot, if_true]
  have := upto (fun k (j : Nat) => impll36_0 K k x x (j : Int)) (fun j => j) x.length (.inl ((x.length : Int), ()))
    (fun k j hj => by
      show impll36_0 K (k + 1) x x j = impll36_0 K k x x ((j + 1 : Nat) : Int)
      rw [impll36_0, implb36_0]
      simp only [cdec, ibne, cnot]
      rw [if_pos (by omega), if_pos (by omega), if_pos (by omega), if_pos trivial, wrapS (by omega)])
    (fun k => by
      show impll36_0 K (k + 1) x x x.length = _
      rw [impll36_0, implb36_0]
      simp only [cdec]
      rw [if_neg (by omega)]) K 0 (by omega) (Nat.zero_le _)
  simp only [Int.natCast_zero] at this
  rw [this]
  rfl

/-! ### The shifts with their numbers, in an order -/
abbrev Shn := Shf × Int
abbrev z4 : Shn := (z3, 0)
def num (l : List Shf) (k : Nat) : List Shn := (List.range k).map fun i => (l.getD i z3, (i : Int))
theorem num_length (l : List Shf) (k : Nat) : (num l k).length = k := by simp [num]
theorem num_succ (l : List Shf) (k : Nat) : num l (k + 1) = num l k ++ [(l.getD k z3, (k : Int))] := by simp [num, List.range_succ]
theorem num_snd (l : List Shf) (k : Nat) : ((num l k).map fun y => y.2) = (List.range k).map fun i : Nat => (i : Int) := by simp [num, List.map_map, Function.comp_def]
theorem num_nodup (l : List Shf) (k : Nat) : ((num l k).map fun y => y.2).Nodup := by
  rw [num_snd, List.nodup_iff_pairwise_ne, List.pairwise_map]
  exact List.nodup_range.imp (R := fun a b => a ≠ b) (S := fun a b : Nat => (a : Int) ≠ (b : Int)) fun h e => h (by omega)
theorem mem_num {l : List Shf} {k : Nat} {y : Shn} : y ∈ num l k ↔ ∃ i, i < k ∧ y = (l.getD i z3, (i : Int)) := by
  simp [num, List.mem_map, eq_comm]
theorem num_fst (l : List Shf) : ((num l l.length).map fun y => y.1) = l := by
  refine List.ext_getElem (by simp [num_length]) fun i h1 h2 => ?_
  simp [num, List.getD, h2]

theorem l67a (K : Nat) (l : List Shf) (hl : l.length ≤ 12) (hK : 12 < K) : impll67a_0 K K () [] l (l.length : Int) 0 = some (num l l.length, (l.length : Int), ()) := by
  have := upto (fun k (s : List Shn × Nat) => impll67a_0 K k () s.1 l (l.length : Int) (s.2 : Int)) (fun j => (num l j, j)) l.length (num l l.length, (l.length : Int), ())
    (fun k j hj => by
      show impll67a_0 K (k + 1) () (num l j) l _ j = impll67a_0 K k () (num l (j + 1)) l _ ((j + 1 : Nat) : Int)
      rw [impll67a_0, implb67a_0]
      simp only [cdec]
      have hle := num_length l j
      rw [if_pos (by omega), if_pos (by omega), if_pos (by simp; omega), wrapS (by omega), num_succ]
      rfl)
    (fun k => by
      show impll67a_0 K (k + 1) () (num l l.length) l _ l.length = _
      rw [impll67a_0, implb67a_0]
      simp only [cdec]
      rw [if_neg (by omega)]) K 0 (by omega) (Nat.zero_le _)
  exact this
theorem l67b (K : Nat) (l : List Shf) (hl : l.length ≤ 12) (hK : 12 < K) : impll67b_0 K K () [] l (l.length : Int) 0 = some (num l l.length, (l.length : Int), ()) := by
  have := upto (fun k (s : List Shn × Nat) => impll67b_0 K k () s.1 l (l.length : Int) (s.2 : Int)) (fun j => (num l j, j)) l.length (num l l.length, (l.length : Int), ())
    (fun k j hj => by
      show impll67b_0 K (k + 1) () (num l j) l _ j = impll67b_0 K k () (num l (j + 1)) l _ ((j + 1 : Nat) : Int)
      rw [impll67b_0, implb67b_0]
      simp only [cdec]
      have hle := num_length l j
      rw [if_pos (by omega), if_pos (by omega), if_pos (by simp; omega), wrapS (by omega), num_succ]
      rfl)
    (fun k => by
      show impll67b_0 K (k + 1) () (num l l.length) l _ l.length = _
      rw [impll67b_0, implb67b_0]
      simp only [cdec]
      rw [if_neg (by omega)]) K 0 (by omega) (Nat.zero_le _)
  exact this
/-- As they begin, as they end. -/
def byB (l : List Shf) : List Shn := isort le68 (num l l.length)
def byE (l : List Shf) : List Shn := isort le70 (num l l.length)
theorem f67a (K : Nat) (l : List Shf) (hl : l.length ≤ 12) (hK : 12 < K) : implf67a K l () = some (byB l) := by
  unfold implf67a
  rw [l67a K l hl hK]
  simp only [obS]
  unfold implf93a
  rw [if_pos ⟨by rw [num_length]; omega, num_nodup l _⟩, obS]
  rfl
theorem f67b (K : Nat) (l : List Shf) (hl : l.length ≤ 12) (hK : 12 < K) : implf67b K l () = some (byE l) := by
  unfold implf67b
  rw [l67b K l hl hK]
  simp only [obS]
  unfold implf93b
  rw [if_pos ⟨by rw [num_length]; omega, num_nodup l _⟩, obS]
  rfl
theorem byB_perm (l : List Shf) : (byB l).Perm (num l l.length) := isort_perm _
theorem byE_perm (l : List Shf) : (byE l).Perm (num l l.length) := isort_perm _
theorem byB_length (l : List Shf) : (byB l).length = l.length := by rw [(byB_perm l).length_eq, num_length]
theorem byE_length (l : List Shf) : (byE l).length = l.length := by rw [(byE_perm l).length_eq, num_length]
theorem mem_byB {l : List Shf} {y : Shn} : y ∈ byB l ↔ ∃ i, i < l.length ∧ y = (l.getD i z3, (i : Int)) := by rw [(byB_perm l).mem_iff, mem_num]
theorem mem_byE {l : List Shf} {y : Shn} : y ∈ byE l ↔ ∃ i, i < l.length ∧ y = (l.getD i z3, (i : Int)) := by rw [(byE_perm l).mem_iff, mem_num]
theorem byB_sorted (l : List Shf) : (byB l).Pairwise fun a b => a.1.1 ≤ b.1.1 :=
  (isort_sorted (le := le68) (fun a b c h1 h2 => le2_tr h1 h2) (fun a b => le2_to _ _ _ _) _).imp fun h => by
    simp only [le68, Bool.or_eq_true, Bool.and_eq_true, decide_eq_true_eq] at h
    omega
theorem byE_sorted (l : List Shf) : (byE l).Pairwise fun a b => a.1.2.1 ≤ b.1.2.1 :=
  (isort_sorted (le := le70) (fun a b c h1 h2 => le2_tr h1 h2) (fun a b => le2_to _ _ _ _) _).imp fun h => by
    simp only [le70, Bool.or_eq_true, Bool.and_eq_true, decide_eq_true_eq] at h
    omega
theorem byB_fst (l : List Shf) : ((byB l).map fun y => y.1).Perm l := by
  have := (byB_perm l).map fun y => y.1
  rwa [num_fst] at this
theorem byE_fst (l : List Shf) : ((byE l).map fun y => y.1).Perm l := by
  have := (byE_perm l).map fun y => y.1
  rwa [num_fst] at this
theorem byE_nodup (l : List Shf) : ((byE l).map fun y => y.2).Nodup := ((byE_perm l).map fun y => y.2).nodup_iff.2 (num_nodup l _)
theorem byB_nodup (l : List Shf) : ((byB l).map fun y => y.2).Nodup := ((byB_perm l).map fun y => y.2).nodup_iff.2 (num_nodup l _)
end Go.Proofs.Ytbojnkcolamneaa
