/- One more place. -/
import Derived.Test.YtdgibokmaannjaaM9
set_option linter.unusedVariables false
set_option linter.unusedSimpArgs false
namespace Go.Proofs.Ytdgibokmaannjaa
open Go Go.Pv Classical

theorem half : ∀ s : Nat, s ≤ 12 → IntKind.i64.wrap ((IntKind.u64.wrap (IntKind.i64.wrap (s : Int))).fdiv ((2 : Int) ^ min 1 IntKind.u64.bits)) = ((s / 2 : Nat) : Int)
  | 0, _ => by kernel_rfl
  | 1, _ => by kernel_rfl
  | 2, _ => by kernel_rfl
  | 3, _ => by kernel_rfl
  | 4, _ => by kernel_rfl
  | 5, _ => by kernel_rfl
  | 6, _ => by kernel_rfl
  | 7, _ => by kernel_rfl
  | 8, _ => by kernel_rfl
  | 9, _ => by kernel_rfl
  | 10, _ => by kernel_rfl
  | 11, _ => by kernel_rfl
  | 12, _ => by kernel_rfl
  | n + 13, h => by omega
def inc2 (c : List Int) : Prop := ∀ i j, i < j → j < c.length → c.getD i 0 < c.getD j 0
theorem V.inc2 {c : List Int} (h : V c) : inc2 c := by
  intro i j hij hj
  have := List.pairwise_iff_getElem.1 h.inc i j (by omega) hj hij
  simpa [List.getD, hj, show i < c.length by omega] using this
theorem w84_0 (c : List Int) (p : Int) (hc : c.length ≤ 6) (hI : inc2 c) : ∀ (m k lo hi : Nat), hi - lo ≤ m → m < k → lo ≤ hi → hi ≤ c.length → (∀ t, t < lo → c.getD t 0 < p) → (∀ t, hi ≤ t → t < c.length → ¬ c.getD t 0 < p) →
    ∃ i : Nat, impll84_0 5000 k c p (c.length : Int) (lo : Int) (hi : Int) = some ((i : Int), (i : Int), ()) ∧ i ≤ c.length ∧ (∀ t, t < i → c.getD t 0 < p) ∧ ∀ t, i ≤ t → t < c.length → ¬ c.getD t 0 < p
  | m, 0, lo, hi, _, h, _, _, _, _ => by omega
  | m, k + 1, lo, hi, h1, h2, h3, h4, h5, h6 => by
    by_cases hlt : lo < hi
    · have hs : (lo : Int) + (hi : Int) = ((lo + hi : Nat) : Int) := by omega
      rw [impll84_0, implb84_0, cdec, if_pos (by omega), hs, half _ (by omega), if_pos ⟨by omega, by omega⟩, w103, obS, cdec, Int.toNat_natCast]
      by_cases g : c.getD ((lo + hi) / 2) 0 < p
      · rw [if_pos g, wrapS (by omega)]
        cases m with
        | zero => omega
        | succ m =>
          exact w84_0 c p hc hI m k ((lo + hi) / 2 + 1) hi (by omega) (by omega) (by omega) h4 (fun t ht => by
            by_cases e : t = (lo + hi) / 2
            · subst e; exact g
            · have := hI t ((lo + hi) / 2) (by omega) (by omega); omega) h6
      · rw [if_neg g]
        cases m with
        | zero => omega
        | succ m =>
          exact w84_0 c p hc hI m k lo ((lo + hi) / 2) (by omega) (by omega) (by omega) (by omega) h5 (fun t ht1 ht2 => by
            by_cases e : t = (lo + hi) / 2
            · subst e; exact g
            · have := hI ((lo + hi) / 2) t (by omega) ht2; omega)
    · obtain rfl : lo = hi := by omega
      refine ⟨lo, ?_, h4, h5, h6⟩
      rw [impll84_0, implb84_0, cdec, if_neg (by omega)]
theorem w84 (c : List Int) (p : Int) (hc : c.length ≤ 6) (hI : inc2 c) : ∃ (i : Nat) (b : Bool), implf84 5000 c p = some ((i : Int), b) ∧ i ≤ c.length ∧ (b = true ↔ p ∈ c) ∧ (∀ t, t < i → c.getD t 0 < p) ∧ ∀ t, i ≤ t → t < c.length → ¬ c.getD t 0 < p := by
  obtain ⟨i, h, hi, h1, h2⟩ := w84_0 c p hc hI c.length 5000 0 c.length (by omega) (by omega) (Nat.zero_le _) (Nat.le_refl _) (fun t ht => by omega) (fun t h1 h2 => by omega)
  have h : impll84_0 5000 5000 c p (Int.ofNat c.length) 0 (Int.ofNat c.length) = some ((i : Int), (i : Int), ()) := h
  have hmem : p ∈ c ↔ i < c.length ∧ c.getD i 0 = p := by
    constructor
    · intro hp
      obtain ⟨t, ht, e⟩ := List.mem_iff_getElem.1 hp
      have e : c.getD t 0 = p := by simpa [List.getD, ht] using e
      have hti : ¬ t < i := fun hlt => by have := h1 t hlt; omega
      have hi2 : i < c.length := by omega
      refine ⟨hi2, ?_⟩
      by_cases e2 : i = t
      · rw [e2]; exact e
      · have g1 := hI i t (by omega) ht
        have g2 := h2 i (Nat.le_refl _) hi2
        omega
    · rintro ⟨g1, rfl⟩; exact getD_mem 0 g1
  unfold implf84
  first
    | rw [h, obS]
    | (have h' : impll84_0 5000 5000 c p (c.length : Int) 0 (c.length : Int) = some ((i : Int), (i : Int), ()) := h
       rw [h', obS])
  rw [cdec]
  by_cases g : i < c.length
  · rw [if_pos (by omega), if_pos ⟨by omega, by omega⟩, ibeq, cdec, Int.toNat_natCast]
    by_cases e : c.getD i 0 = p
    · rw [if_pos e]
      exact ⟨i, true, rfl, hi, ⟨fun _ => hmem.2 ⟨g, e⟩, fun _ => rfl⟩, h1, h2⟩
    · rw [if_neg e, if_pos ⟨by omega, by omega⟩, ibne, cnot, cdec, if_pos rfl]
      exact ⟨i, false, rfl, hi, ⟨fun h => (by cases h), fun h => absurd (hmem.1 h).2 e⟩, h1, h2⟩
  · rw [if_neg (by omega)]
    exact ⟨i, false, rfl, hi, ⟨fun h => (by cases h), fun h => absurd (hmem.1 h).1 g⟩, h1, h2⟩

theorem srt_inc2 {c : List Int} (h : inc2 c) : c.Pairwise fun a b => a < b := by
  rw [List.pairwise_iff_getElem]
  intro i j hi hj hij
  have := h i j hij hj
  simpa [List.getD, hi, hj] using this
def dis (p x : Int) : Int := max (x - p) (p - x)
theorem pos_dis (p : Int) : ∀ c : List Int, p ∉ c → (((c.map fun x => x - p).filter fun n => decide (0 < n)) ++ ((c.map fun x => p - x).filter fun n => decide (0 < n))).Perm (c.map (dis p))
  | [], _ => List.Perm.refl _
  | x :: c, h => by
    have ih := pos_dis p c fun e => h (by simp [e])
    have hx : x ≠ p := fun e => h (by simp [e])
    simp only [List.map_cons]
    by_cases g : p < x
    · have e1 : decide (0 < x - p) = true := decide_eq_true (by omega)
      have e2 : decide (0 < p - x) = false := decide_eq_false (by omega)
      have e3 : dis p x = x - p := by unfold dis; omega
      simp only [List.filter_cons, e1, e2, if_true, if_false, Bool.false_eq_true]
      rw [e3]
      exact ih.cons _
    · have e1 : decide (0 < x - p) = false := decide_eq_false (by omega)
      have e2 : decide (0 < p - x) = true := decide_eq_true (by omega)
      have e3 : dis p x = p - x := by unfold dis; omega
      simp only [List.filter_cons, e1, e2, if_true, if_false, Bool.false_eq_true]
      rw [e3]
      exact List.perm_middle.trans (ih.cons _)
theorem posD_snoc (c : List Int) (p : Int) (hp : p ∉ c) : (posD (c ++ [p])).Perm (posD c ++ c.map (dis p)) := by
  unfold posD
  have h : (prs (c ++ [p])).Perm (prs c ++ ((c.map fun x => x - p) ++ ((c.map fun x => p - x) ++ [p - p]))) := by
    unfold prs
    rw [List.flatMap_append, ← List.append_assoc]
    refine List.Perm.append ?_ ?_
    · have : (c.flatMap fun a => (c ++ [p]).flatMap fun b => [a - b]) = c.flatMap fun a => (c.flatMap fun b => [a - b]) ++ [a - p] := by
        congr 1; funext a; rw [List.flatMap_append]; rfl
      rw [this, map_fm (fun x => x - p)]
      exact fm_app
    · have : ([p].flatMap fun a => (c ++ [p]).flatMap fun b => [a - b]) = (c.flatMap fun b => [p - b]) ++ [p - p] := by
        rw [List.flatMap_cons, List.flatMap_nil, List.append_nil, List.flatMap_append]; rfl
      rw [this, map_fm (fun x => p - x)]
  refine (h.filter _).trans ?_
  rw [List.filter_append, List.filter_append, List.filter_append, Int.sub_self, show ([0] : List Int).filter (fun n => decide (0 < n)) = [] from rfl, List.append_nil]
  exact (pos_dis p c hp).append_left _
end Go.Proofs.Ytdgibokmaannjaa
