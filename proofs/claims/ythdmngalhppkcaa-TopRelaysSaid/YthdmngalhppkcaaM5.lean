/- Boxes whose states have other numbers. -/
import Derived.Test.YthdmngalhppkcaaM2
set_option linter.unusedVariables false
set_option linter.unusedSimpArgs false
namespace Go.Proofs.Ythdmngalhppkcaa
open Go Go.Pv Classical

/-- The new number of a state. -/
def tt (t : List Int) (s : Int) : Int := t.getD s.toNat 0
def rrow (b : Bx) (t : List Int) (j : Nat) : List Int := ((List.replicate 2 0).set 0 (tt t (nx b j 0))).set 1 (tt t (nx b j 1))
/-- The first j states are renamed. -/
def R (b : Bx) (t : List Int) : Nat → Bx
  | 0 => (List.replicate b.1.length (List.replicate 2 0), List.replicate b.1.length 0)
  | j + 1 => ((R b t j).1.set (tt t j).toNat (rrow b t j), (R b t j).2.set (tt t j).toNat (ot b j))
/-- No two states have one number. -/
def inj (n : Nat) (t : List Int) : Prop := ∀ i j : Nat, i < n → j < n → tt t i = tt t j → i = j

def ids (n : Nat) : List Int := (List.range n).map fun (i : Nat) => (i : Int)
theorem f70 (K : Nat) (hK : 10 ≤ K) (b : Bx) (s : Int) : implf70 K b [s] = some (if V b then (if 0 ≤ s ∧ s ≤ (b.1.length : Int) - 1 then 0 else 4) else 1) := by
  unfold implf70
  rw [f30 K (by omega)]
  simp only [obS, ibne, cnot, cdec]
  by_cases hv : V b
  · have h6 := hv.2.1
    simp only [if_pos hv, if_true]
    have w1 : IntKind.i64.wrap ((b.1.length : Int) - 1) = (b.1.length : Int) - 1 := wrapI (by omega) (by omega)
    obtain ⟨K, rfl⟩ : ∃ K', K = K' + 2 := ⟨K - 2, by omega⟩
    have e : ∀ K0 k, impll70_0 K0 (k + 2) b [s] (([s].length : Nat) : Int) 0 = some (if 0 ≤ s ∧ s ≤ (b.1.length : Int) - 1 then .inl (1, ()) else .inr 4) := by
      intro K0 k
      rw [impll70_0, implb70_0]
      simp only [cdec, cnot, w61, obS, w1]
      rw [if_pos (by simp), if_pos (by simp)]
      have eg : [s].getD (0 : Int).toNat 0 = s := rfl
      rw [eg]
      by_cases h : 0 ≤ s ∧ s ≤ (b.1.length : Int) - 1
      · rw [if_pos h, if_pos h]
        have : IntKind.i64.wrap ((0 : Int) + 1) = 1 := wrapI (by omega) (by omega)
        rw [this, impll70_0, implb70_0]
        simp only [cdec]
        rw [if_neg (by simp)]
      · rw [if_neg h, if_neg h]
    rw [e]
    by_cases h : 0 ≤ s ∧ s ≤ (b.1.length : Int) - 1
    · rw [if_pos h, if_pos h]; rfl
    · rw [if_neg h, if_neg h]; rfl
  · simp only [if_neg hv]
    rw [if_neg (by omega)]

theorem f72 (K : Nat) (hK : 10 ≤ K) (b : Bx) (s : Int) : implf72 K b s = some (if V b then (if 0 ≤ s ∧ s ≤ (b.1.length : Int) - 1 then 0 else 4) else 1) := by
  unfold implf72
  rw [f31 K (by omega)]
  simp only [obS, ibne, cnot, cdec, w62]
  by_cases hv : V b
  · have h6 := hv.2.1
    have h22 := hv.2.2.1
    simp only [if_pos hv, if_true]
    have w1 : IntKind.i64.wrap ((b.2.length : Int) - 1) = (b.1.length : Int) - 1 := by rw [wrapI (by omega) (by omega)]; omega
    rw [w1]
    by_cases h : 0 ≤ s ∧ s ≤ (b.1.length : Int) - 1
    · rw [if_pos h, if_pos h]
    · rw [if_neg h, if_neg h]
  · simp only [if_neg hv]
    rw [if_neg (by omega)]

end Go.Proofs.Ythdmngalhppkcaa
