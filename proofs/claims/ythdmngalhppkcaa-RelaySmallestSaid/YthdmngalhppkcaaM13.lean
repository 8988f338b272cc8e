/- The kinds: the second text. -/
import Derived.Test.YthdmngalhppkcaaM12
set_option linter.unusedVariables false
set_option linter.unusedSimpArgs false
namespace Go.Proofs.Ythdmngalhppkcaa
open Go Go.Pv Classical

section
variable {b : Bx} (hv : V b)
include hv

theorem told {i j : Nat} (hi : i < b.1.length) (hj : j < b.1.length) : (tell b b i j).2 = false ↔ eqv b j i := by
  have hs : inB b i := ⟨by omega, by omega⟩
  have ht : inB b j := ⟨by omega, by omega⟩
  constructor
  · intro h w hw
    exact ((tell_false hv hv hs ht h).2 w hw).symm
  · intro h
    cases h2 : (tell b b i j).2 with
    | false => rfl
    | true =>
      obtain ⟨t1, t2, _⟩ := tell_true hv hv hs ht h2
      exact absurd (h _ t1).symm t2

omit hv in
theorem kdi_le (i : Nat) : kdi b i ≤ i := (first_spec (p := fun j => eqv b j i) (fun _ _ => rfl)).2.1

theorem l60a {i : Nat} (hi : i < b.1.length) (l : List Int) : ∀ (k j : Nat), kdi b i - j < k → j ≤ kdi b i → impll60_2 300 k b l i j (tell b b i j).2 = some ((kdi b i : Int), false, ())
  | 0, j, hk, _ => by omega
  | k + 1, j, hk, hj => by
    have h6 := hv.2.1
    have hle := kdi_le (b := b) i
    have hsp := first_spec (p := fun j => eqv b j i) (i := i) (fun _ _ => rfl)
    rw [impll60_2, implb60_2]
    by_cases he : j = kdi b i
    · have : (tell b b i j).2 = false := (told hv hi (by omega)).2 (by rw [he]; exact hsp.1)
      rw [this, he]; rfl
    · have : (tell b b i j).2 = true := by
        cases h2 : (tell b b i j).2 with
        | true => rfl
        | false => exact absurd ((told hv hi (by omega)).1 h2) (hsp.2.2 j (by show j < kdi b i; omega))
      rw [this, cond_true, wrapS (by omega), f79 hv hv (s := (i : Int)) (t := ((j + 1 : Nat) : Int)) ⟨by omega, by omega⟩ ⟨by omega, by omega⟩, obS]
      exact l60a hi l k (j + 1) (by omega) (by omega)

theorem f60 : implf60 300 b = some (kinds b) := by
  unfold implf60
  have h6 := hv.2.1
  have h22 := hv.2.2.1
  have h := upto (fun k (s : List Int × Int) => impll60_0 300 k b s.1 s.2) (fun i => ((List.range i).map fun m => (kdi b m : Int), (i : Int))) b.1.length (kinds b, (b.1.length : Int), ())
    (fun k i hi => by
      show impll60_0 300 (k + 1) b ((List.range i).map fun m => (kdi b m : Int)) i = impll60_0 300 k b ((List.range (i + 1)).map fun m => (kdi b m : Int)) ((i + 1 : Nat) : Int)
      rw [impll60_0, implb60_0]
      simp only [cdec]
      have hle := kdi_le (b := b) i
      have hl := l60a hv hi ((List.range i).map fun m => (kdi b m : Int)) 300 0 (by omega) (by omega)
      have hl : impll60_2 300 300 b ((List.range i).map fun m => (kdi b m : Int)) i 0 (tell b b i (0 : Int)).2 = _ := hl
      rw [if_pos (by omega), f79 hv hv (s := (i : Int)) (t := 0) ⟨by omega, by omega⟩ (zero_in hv), obS, hl, obS, if_pos (by simp; omega), wrapS (by omega), List.range_succ, List.map_append]
      rfl)
    (fun k => by
      show impll60_0 300 (k + 1) b ((List.range b.1.length).map fun m => (kdi b m : Int)) (b.1.length : Nat) = _
      rw [impll60_0, implb60_0]
      simp only [cdec]
      rw [if_neg (by omega)]
      rfl) 300 0 (by omega) (by omega)
  have h : impll60_0 300 300 b [] 0 = _ := h
  rw [h]; rfl
end

noncomputable def kc (b : Bx) : List Int × Int := if V b then (kinds b, 0) else ([], 1)
theorem f21 (b : Bx) : implf21 300 b = some (kc b) := by
  unfold implf21 kc
  rw [f30 300 (by omega)]
  simp only [obS, ibne, cnot, cdec]
  by_cases hv : V b
  · simp only [if_pos hv]
    rw [if_pos trivial, f59 hv]; rfl
  · simp only [if_neg hv]
    rw [if_neg (by omega)]
theorem f22 (b : Bx) : implf22 300 b = some (kc b) := by
  unfold implf22 kc
  rw [f31 300 (by omega)]
  simp only [obS, ibne, cnot, cdec]
  by_cases hv : V b
  · simp only [if_pos hv]
    rw [if_pos trivial, f60 hv]; rfl
  · simp only [if_neg hv]
    rw [if_neg (by omega)]
theorem kc_len (b : Bx) : (kc b).1.length ≤ 6 := by
  unfold kc
  by_cases hv : V b
  · rw [if_pos hv]; have := hv.2.1; simp [kinds]; omega
  · rw [if_neg hv]; simp

end Go.Proofs.Ythdmngalhppkcaa
