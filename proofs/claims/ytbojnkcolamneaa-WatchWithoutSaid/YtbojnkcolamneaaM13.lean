/- Shifts that are the same; a shift in new memory. -/
import Derived.Test.YtbojnkcolamneaaM12
set_option linter.unusedVariables false
set_option linter.unusedSimpArgs false
namespace Go.Proofs.Ytbojnkcolamneaa
open Go Go.Pv Classical

theorem ext_getD {α : Type} (d : α) {x y : List α} (h : x.length = y.length) : (∀ i, 0 ≤ i → i < x.length → x.getD i d = y.getD i d) ↔ x = y := by
  constructor
  · intro g
    refine List.ext_getElem h fun i h1 h2 => ?_
    have := g i (Nat.zero_le _) h1
    simpa [List.getD, h1, h2] using this
  · rintro rfl i _ _; rfl
theorem f49 (K : Nat) (x y : List Shf) (hK : x.length < K) (hx : x.length ≤ 1000) : implf49 K x y = some (decide (x = y)) := by
  unfold implf49
  simp only [ibne, cdec, cnot]
  by_cases hl : x.length = y.length
  · rw [if_pos (by omega)]
    have := uptoAll (fun k (j : Nat) => impll49_0 K k x y (j : Int)) (fun j => j) x.length (fun j => x.getD j z3 = y.getD j z3) (.inl ((x.length : Int), ())) (.inr false)
      (fun k j hj hp => by
        show impll49_0 K (k + 1) x y j = impll49_0 K k x y ((j + 1 : Nat) : Int)
        rw [impll49_0, implb49_0]
        have e1 : x.getD (j : Int).toNat ((0 : Int), (0 : Int), (0 : Int)) = x.getD j z3 := rfl
        have e2 : y.getD (j : Int).toNat ((0 : Int), (0 : Int), (0 : Int)) = y.getD j z3 := rfl
        have e3 : Int.ofNat (nat_lit 0) = (0 : Int) := rfl
        simp only [cdec, cnot, e3, e1, e2, hp]
        rw [if_pos (by omega), if_pos (by omega), if_pos (by omega), wrapS (by omega)]
        simp)
      (fun k j hj hp => by
        show impll49_0 K (k + 1) x y j = _
        rw [impll49_0, implb49_0]
        have e1 : x.getD (j : Int).toNat ((0 : Int), (0 : Int), (0 : Int)) = x.getD j z3 := rfl
        have e2 : y.getD (j : Int).toNat ((0 : Int), (0 : Int), (0 : Int)) = y.getD j z3 := rfl
        have e3 : Int.ofNat (nat_lit 0) = (0 : Int) := rfl
        simp only [cdec, cnot, e3, e1, e2]
        rw [if_pos (by omega), if_pos (by omega), if_pos (by omega)]
        generalize x.getD j z3 = a at hp ⊢
        generalize y.getD j z3 = b at hp ⊢
        obtain ⟨a1, a2, a3⟩ := a
        obtain ⟨b1, b2, b3⟩ := b
        by_cases h1 : a1 = b1
        · by_cases h2 : a2 = b2
          · by_cases h3 : a3 = b3
            · exact absurd (by rw [h1, h2, h3]) hp
            · simp [h1, h2, h3]
          · simp [h1, h2]
        · simp [h1])
      (fun k => by
        show impll49_0 K (k + 1) x y x.length = _
        rw [impll49_0, implb49_0]
        simp only [cdec]
        rw [if_neg (by omega)]) K 0 (by omega) (Nat.zero_le _)
    simp only [Int.natCast_zero] at this
    rw [this, obS]
    by_cases h : x = y
    · rw [if_pos ((ext_getD z3 hl).2 h), decide_eq_true h]
    · rw [if_neg (fun g => h ((ext_getD z3 hl).1 g)), decide_eq_false h]
  · rw [if_neg (by omega), decide_eq_false (fun e => hl (by rw [e]))]
end Go.Proofs.Ytbojnkcolamneaa
