/- Two boxes side by side: a word that tells them apart is shorter than both have states. -/
import Derived.Test.YthdmngalhppkcaaM9
set_option linter.unusedVariables false
set_option linter.unusedSimpArgs false
namespace Go.Proofs.Ythdmngalhppkcaa
open Go Go.Pv Classical

section
variable (A B : Bx)
noncomputable def out2 (i : Nat) (w : List Int) : Int := if i < A.1.length then ot A (en A i w) else ot B (en B ((i - A.1.length : Nat) : Int) w)
noncomputable def nxt2 (i : Nat) (x : Int) : Nat := if i < A.1.length then (nx A i x).toNat else A.1.length + (nx B ((i - A.1.length : Nat) : Int) x).toNat
variable {A B}

theorem short2 (hA : V A) (hB : V B) {s t : Int} (hs : inB A s) (ht : inB B t) {v : List Int} (hv : wok v) (hd : ot A (en A s v) ≠ ot B (en B t v)) :
    ∃ u, wok u ∧ ot A (en A s u) ≠ ot B (en B t u) ∧ u.length < A.1.length + B.1.length := by
  have es : ∀ w, out2 A B s.toNat w = ot A (en A s w) := fun w => by
    unfold out2
    rw [if_pos (by omega)]
    have : ((s.toNat : Nat) : Int) = s := by omega
    rw [this]
  have et : ∀ w, out2 A B (A.1.length + t.toNat) w = ot B (en B t w) := fun w => by
    unfold out2
    rw [if_neg (by omega)]
    have : ((A.1.length + t.toNat - A.1.length : Nat) : Int) = t := by omega
    rw [this]
  have h := moore (n := A.1.length + B.1.length) (out := out2 A B) (nxt := nxt2 A B) (fun i hi x hx => by
    unfold nxt2
    by_cases g : i < A.1.length
    · rw [if_pos g]
      have := nx_in hA (s := (i : Int)) ⟨by omega, by omega⟩ hx
      omega
    · rw [if_neg g]
      have := nx_in hB (s := ((i - A.1.length : Nat) : Int)) ⟨by omega, by omega⟩ hx
      omega) (fun i hi x hx w hw => by
    unfold out2 nxt2
    by_cases g : i < A.1.length
    · have hin := nx_in hA (s := (i : Int)) ⟨by omega, by omega⟩ hx
      rw [if_pos g, if_pos g, if_pos (by omega)]
      have : (((nx A i x).toNat : Nat) : Int) = nx A i x := by omega
      rw [this]; rfl
    · have hin := nx_in hB (s := ((i - A.1.length : Nat) : Int)) ⟨by omega, by omega⟩ hx
      rw [if_neg g, if_neg g, if_neg (by omega)]
      have : ((A.1.length + (nx B ((i - A.1.length : Nat) : Int) x).toNat - A.1.length : Nat) : Int) = nx B ((i - A.1.length : Nat) : Int) x := by omega
      rw [this]; rfl) (i := s.toNat) (j := A.1.length + t.toNat) (by omega) (by omega) hv (by rw [es, et]; exact hd)
  obtain ⟨u, h1, h2, h3⟩ := h
  rw [es, et] at h2
  exact ⟨u, h1, h2, h3⟩

end

/-- Two boxes: the word that tells them apart. -/
noncomputable def tells (A B : Bx) : List Int × Bool × Int := if V A ∧ V B then ((tell A B 0 0).1, (tell A B 0 0).2, 0) else ([], false, 1)

theorem f44 (A B : Bx) : implf44 300 A B = some (tells A B) := by
  unfold implf44 implf76 tells
  rw [f30 300 (by omega), f30 300 (by omega)]
  simp only [obS, ibne, cnot, cdec]
  by_cases hA : V A
  · simp only [if_pos hA]
    rw [if_pos trivial]
    by_cases hB : V B
    · simp only [if_pos hB, obS]
      rw [if_pos trivial, f77 hA hB (zero_in hA) (zero_in hB), if_pos ⟨hA, hB⟩]; rfl
    · simp only [if_neg hB, obS]
      rw [if_neg (by omega), if_neg (fun h => hB h.2)]
  · simp only [if_neg hA]
    rw [if_neg (by omega), if_neg (fun h => hA h.1)]
    simp only [obS]
    rw [if_neg (by omega)]

end Go.Proofs.Ythdmngalhppkcaa
