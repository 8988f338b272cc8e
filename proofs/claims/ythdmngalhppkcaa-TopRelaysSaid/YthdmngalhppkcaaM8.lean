/- The second text's search for a word that tells two boxes apart. -/
import Derived.Test.YthdmngalhppkcaaM7
set_option linter.unusedVariables false
set_option linter.unusedSimpArgs false
namespace Go.Proofs.Ythdmngalhppkcaa
open Go Go.Pv Classical

section
variable (A B : Bx) (s t : Int)
/-- The table holds what the words reach. -/
structure Tab (tb : List (List Bool)) (ws : List (List Int)) : Prop where
  len : tb.length = 6
  row : ∀ p : Int, 0 ≤ p ∧ p < 6 → (tb.getD p.toNat (List.replicate 6 false)).length = 6
  at_ : ∀ p q : Int, 0 ≤ p ∧ p < 6 → 0 ≤ q ∧ q < 6 → (tb.getD p.toNat (List.replicate 6 false)).getD q.toNat false = decide (∃ u ∈ ws, nd2 A B s t u = (p, q))
variable {A B s t}

theorem getD_set_self {α : Type} {l : List α} {i : Nat} (d x : α) (h : i < l.length) : (l.set i x).getD i d = x := by
  rw [List.getD_eq_getElem?_getD, List.getElem?_set_self h]; rfl
theorem getD_set_ne {α : Type} {l : List α} {i j : Nat} (d x : α) (h : i ≠ j) : (l.set i x).getD j d = l.getD j d := by
  rw [List.getD_eq_getElem?_getD, List.getElem?_set_ne h, ← List.getD_eq_getElem?_getD]

theorem Tab.grow {tb : List (List Bool)} {ws : List (List Int)} (h : Tab A B s t tb ws) (v : List Int) (hp : 0 ≤ (nd2 A B s t v).1 ∧ (nd2 A B s t v).1 < 6) (hq : 0 ≤ (nd2 A B s t v).2 ∧ (nd2 A B s t v).2 < 6) :
    Tab A B s t (tb.set (nd2 A B s t v).1.toNat ((tb.getD (nd2 A B s t v).1.toNat (List.replicate 6 false)).set (nd2 A B s t v).2.toNat true)) (ws ++ [v]) := by
  have hl := h.len
  have hr := h.row _ hp
  refine ⟨by simpa using hl, fun p hp' => ?_, fun p q hp' hq' => ?_⟩
  · by_cases e : (nd2 A B s t v).1.toNat = p.toNat
    · rw [← e, getD_set_self _ _ (by omega)]; simpa using hr
    · rw [getD_set_ne _ _ e]; exact h.row p hp'
  · have hsplit : (∃ u ∈ ws ++ [v], nd2 A B s t u = (p, q)) ↔ (∃ u ∈ ws, nd2 A B s t u = (p, q)) ∨ nd2 A B s t v = (p, q) := by
      constructor
      · rintro ⟨u, hu, e⟩
        rcases List.mem_append.1 hu with hu | hu
        · exact .inl ⟨u, hu, e⟩
        · simp only [List.mem_singleton] at hu
          subst hu; exact .inr e
      · rintro (⟨u, hu, e⟩ | e)
        · exact ⟨u, List.mem_append_left _ hu, e⟩
        · exact ⟨v, by simp, e⟩
    by_cases e : (nd2 A B s t v).1.toNat = p.toNat
    · rw [← e, getD_set_self _ _ (by omega)]
      by_cases e2 : (nd2 A B s t v).2.toNat = q.toNat
      · rw [← e2, getD_set_self _ _ (by omega)]
        have : nd2 A B s t v = (p, q) := Prod.ext (by show (nd2 A B s t v).1 = p; omega) (by show (nd2 A B s t v).2 = q; omega)
        rw [decide_eq_true (hsplit.2 (.inr this))]
      · rw [getD_set_ne _ _ e2, e, h.at_ p q hp' hq']
        refine decide_eq_decide.2 ⟨fun g => hsplit.2 (.inl g), fun g => (hsplit.1 g).elim id fun g => ?_⟩
        rw [g] at e2; exact absurd rfl e2
    · rw [getD_set_ne _ _ e, h.at_ p q hp' hq']
      refine decide_eq_decide.2 ⟨fun g => hsplit.2 (.inl g), fun g => (hsplit.1 g).elim id fun g => ?_⟩
      rw [g] at e; exact absurd rfl e

variable (hA : V A) (hB : V B) (hs : inB A s) (ht : inB B t)
include hA hB hs ht

end

end Go.Proofs.Ythdmngalhppkcaa
