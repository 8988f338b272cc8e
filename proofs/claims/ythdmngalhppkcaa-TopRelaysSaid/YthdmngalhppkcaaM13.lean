/- The kinds: the second text. -/
import Derived.Test.YthdmngalhppkcaaM12
set_option linter.unusedVariables false
set_option linter.unusedSimpArgs false
namespace Go.Proofs.Ythdmngalhppkcaa
open Go Go.Pv Classical

section
variable {b : Bx} (hv : V b)
include hv

theorem told {i j : Nat} (hi : i < b.1.length) (hj : j < b.1.length) : (tell b b i j).2 = false ↔ eqv b j i := by
  have hs : inB b i := ⟨by omega, by omega⟩
  have ht : inB b j := ⟨by omega, by omega⟩
  constructor
  · intro h w hw
    exact ((tell_false hv hv hs ht h).2 w hw).symm
  · intro h
    cases h2 : (tell b b i j).2 with
    | false => rfl
    | true =>
      obtain ⟨t1, t2, _⟩ := tell_true hv hv hs ht h2
      exact absurd (h _ t1).symm t2

omit hv in
end

noncomputable def kc (b : Bx) : List Int × Int := if V b then (kinds b, 0) else ([], 1)
theorem f21 (b : Bx) : implf21 300 b = some (kc b) := by
  unfold implf21 kc
  rw [f30 300 (by omega)]
  simp only [obS, ibne, cnot, cdec]
  by_cases hv : V b
  · simp only [if_pos hv]
    rw [if_pos trivial, f59 hv]; rfl
  · simp only [if_neg hv]
    rw [if_neg (by omega)]
end Go.Proofs.Ythdmngalhppkcaa
