/- The numbers that are no delays. -/
import Derived.Test.YtdgibokmaannjaaM8
set_option linter.unusedVariables false
set_option linter.unusedSimpArgs false
namespace Go.Proofs.Ytdgibokmaannjaa
open Go Go.Pv Classical

theorem leI_sorted (l : List Int) : (isort leI l).Pairwise (fun a b => a ≤ b) :=
  (isort_sorted (le := leI) (fun a b c h1 h2 => by simp only [leI, decide_eq_true_eq] at *; omega) (fun a b => by simp only [leI, decide_eq_true_eq]; omega) l).imp fun h => by simpa [leI] using h


def sp (c : List Int) : Int := c.getD (c.length - 1) 0 - c.getD 0 0
theorem V.lo {c : List Int} (h : V c) {a : Int} (ha : a ∈ c) : c.getD 0 0 ≤ a ∧ a ≤ c.getD (c.length - 1) 0 := by
  obtain ⟨i, hi, rfl⟩ := List.mem_iff_getElem.1 ha
  have hp := List.pairwise_iff_getElem.1 h.inc
  have gd : ∀ i (h : i < c.length), c.getD i 0 = c[i] := fun i h => by simp [List.getD, h]
  have h0 := h.pos
  rw [gd 0 h0, gd (c.length - 1) (by omega)]
  constructor
  · by_cases e : i = 0
    · subst e; exact Int.le_refl _
    · have := hp 0 i h0 hi (by omega); omega
  · by_cases e : i = c.length - 1
    · subst e; exact Int.le_refl _
    · have := hp i (c.length - 1) hi (by omega) (by omega); omega
theorem mem_D {c : List Int} (h : V c) {y : Int} : y ∈ D c ↔ 0 < y ∧ ∃ a ∈ c, ∃ b ∈ c, y = a - b := by
  unfold D
  rw [(isort_perm _).mem_iff, (raw_pos c h.inc).mem_iff]
  unfold posD prs
  simp only [List.mem_filter, List.mem_flatMap, List.mem_singleton, decide_eq_true_eq]
  exact ⟨fun ⟨h1, h2⟩ => ⟨h2, h1⟩, fun ⟨h1, h2⟩ => ⟨h2, h1⟩⟩
theorem D_sp {c : List Int} (h : V c) : (∀ y ∈ D c, 1 ≤ y ∧ y ≤ sp c) ∧ (0 < sp c → sp c ∈ D c) := by
  constructor
  · intro y hy
    obtain ⟨h0, a, ha, b, hb, rfl⟩ := (mem_D h).1 hy
    have h1 := h.lo ha
    have h2 := h.lo hb
    unfold sp
    omega
  · intro h0
    exact (mem_D h).2 ⟨h0, _, getD_mem 0 (show c.length - 1 < c.length by have := h.pos; omega), _, getD_mem 0 h.pos, rfl⟩
end Go.Proofs.Ytdgibokmaannjaa
