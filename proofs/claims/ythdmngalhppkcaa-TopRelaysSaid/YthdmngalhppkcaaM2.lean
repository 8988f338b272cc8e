/- The boxes that are made: turned, later, with other signals. -/
import Derived.Test.YthdmngalhppkcaaM1
set_option linter.unusedVariables false
set_option linter.unusedSimpArgs false
namespace Go.Proofs.Ythdmngalhppkcaa
open Go Go.Pv Classical

theorem f66 (K : Nat) (x : List Int) (h : x.length ≤ 1000000) : implf66 K x = some x := by
  unfold implf66
  rw [if_pos (by simp; omega)]; rfl
theorem f34 (K : Nat) (a c : Bx) (h1 : a.1.length < K) (h2 : a.2.length < K) (h3 : a.1.length ≤ 1000000) (h4 : a.2.length ≤ 1000000) : implf34 K a c = some (decide (a = c)) := by
  unfold implf34
  simp only [ibne, cnot, cdec]
  by_cases hl : a.1.length = c.1.length
  · rw [if_pos (by omega)]
    have h := uptoAll (fun k (s : Bx × Bx × Int) => impll34_0 K k s.1 s.2.1 s.2.2) (fun j => (a, c, (j : Int))) a.1.length (fun j => a.1.getD j (List.replicate 2 0) = c.1.getD j (List.replicate 2 0))
      (.inl ((a.1.length : Int), ())) (.inr false) (fun k j hj hp => by
        show impll34_0 K (k + 1) a c j = impll34_0 K k a c ((j + 1 : Nat) : Int)
        rw [impll34_0, implb34_0]
        have c1 : (j : Int) < (a.1.length : Int) := by omega
        have c2 : 0 ≤ (j : Int) ∧ (j : Int) < (a.1.length : Int) := by omega
        have c3 : 0 ≤ (j : Int) ∧ (j : Int) < (c.1.length : Int) := by omega
        simp only [cdec, if_pos c1, if_pos c2, if_pos c3, cnot]
        refine (congrArg (fun t => bif t then impll34_0 K k a c (IntKind.i64.wrap ((j : Int) + 1)) else some (Sum.inr false)) (rowEq (a.1.getD (j : Int).toNat (List.replicate 2 0)) (c.1.getD (j : Int).toNat (List.replicate 2 0)))).trans ?_
        simp only [cdec]
        have hp : a.1.getD (j : Int).toNat (List.replicate 2 0) = c.1.getD (j : Int).toNat (List.replicate 2 0) := hp
        rw [if_pos hp, wrapS (by omega)]) (fun k j hj hp => by
        show impll34_0 K (k + 1) a c j = _
        rw [impll34_0, implb34_0]
        have c1 : (j : Int) < (a.1.length : Int) := by omega
        have c2 : 0 ≤ (j : Int) ∧ (j : Int) < (a.1.length : Int) := by omega
        have c3 : 0 ≤ (j : Int) ∧ (j : Int) < (c.1.length : Int) := by omega
        simp only [cdec, if_pos c1, if_pos c2, if_pos c3, cnot]
        refine (congrArg (fun t => bif t then impll34_0 K k a c (IntKind.i64.wrap ((j : Int) + 1)) else some (Sum.inr false)) (rowEq (a.1.getD (j : Int).toNat (List.replicate 2 0)) (c.1.getD (j : Int).toNat (List.replicate 2 0)))).trans ?_
        simp only [cdec]
        have hp : ¬ a.1.getD (j : Int).toNat (List.replicate 2 0) = c.1.getD (j : Int).toNat (List.replicate 2 0) := hp
        rw [if_neg hp]) (fun k => by
        show impll34_0 K (k + 1) a c (a.1.length : Nat) = _
        rw [impll34_0, implb34_0]
        simp only [cdec]
        rw [if_neg (by omega)]) K 0 (by omega) (by omega)
    have h : impll34_0 K K a c 0 = _ := h
    rw [h, obS]
    by_cases hr : ∀ i, 0 ≤ i → i < a.1.length → a.1.getD i (List.replicate 2 0) = c.1.getD i (List.replicate 2 0)
    · rw [if_pos hr]
      have e1 : a.1 = c.1 := by
        apply List.ext_getElem hl
        intro i g1 g2
        have := hr i (Nat.zero_le _) g1
        simpa [List.getD, g1, g2] using this
      show (ob (implf23 K a.2 c.2) fun y3 => some y3) = _
      rw [f23 K _ _ h2 h4, obS]
      by_cases e2 : a.2 = c.2
      · have : a = c := Prod.ext e1 e2
        simp [e2, this]
      · have : a ≠ c := fun h => e2 (by rw [h])
        simp [e2, this]
    · rw [if_neg hr]
      have : a ≠ c := fun h => hr fun i _ _ => by rw [h]
      simp [this]
  · rw [if_neg (by omega)]
    have : a ≠ c := fun h => hl (by rw [h])
    simp [this]

end Go.Proofs.Ythdmngalhppkcaa
