/- RelayApart: what is to be shown of the readings. -/
import Derived.Test.YthdmngalhppkcaaM13
set_option linter.unusedVariables false
set_option linter.unusedSimpArgs false
namespace Go.Proofs.Ythdmngalhppkcaa
open Go Go.Pv Classical

/-- Is this a state's number? -/
def stn (b : Bx) (s : Int) : Prop := 0 ≤ s ∧ s ≤ (b.1.length : Int) - 1

theorem f70b (b : Bx) (hv : V b) (s t : Int) : implf70 300 b [s, t] = some (if stn b s ∧ stn b t then 0 else 4) := by
  unfold implf70
  rw [f30 300 (by omega)]
  simp only [obS, ibne, cnot, cdec, if_pos hv]
  rw [if_pos trivial]
  have h6 := hv.2.1
  have w1 : IntKind.i64.wrap ((b.1.length : Int) - 1) = (b.1.length : Int) - 1 := wrapI (by omega) (by omega)
  have e0 : ∀ k j, impll70_0 300 (k + 1) b [s, t] (([s, t].length : Nat) : Int) j = implb70_0 300 (impll70_0 300 k) b [s, t] (([s, t].length : Nat) : Int) j := fun k j => by rw [impll70_0]
  have i1 : IntKind.i64.wrap ((0 : Int) + 1) = 1 := wrapI (by omega) (by omega)
  have i2 : IntKind.i64.wrap ((1 : Int) + 1) = 2 := wrapI (by omega) (by omega)
  have g0 : [s, t].getD (0 : Int).toNat 0 = s := rfl
  have g1 : [s, t].getD (1 : Int).toNat 0 = t := rfl
  rw [e0, implb70_0]
  simp only [cdec, cnot, w61, obS, w1, g0]
  rw [if_pos (by simp), if_pos (by simp)]
  by_cases hs : 0 ≤ s ∧ s ≤ (b.1.length : Int) - 1
  · rw [if_pos hs, i1, e0, implb70_0]
    simp only [cdec, cnot, w61, obS, w1, g1]
    rw [if_pos (by simp), if_pos (by simp)]
    by_cases ht : 0 ≤ t ∧ t ≤ (b.1.length : Int) - 1
    · rw [if_pos ht, i2, e0, implb70_0]
      simp only [cdec]
      rw [if_neg (by simp), if_pos (show stn b s ∧ stn b t from ⟨hs, ht⟩)]; rfl
    · rw [if_neg ht, if_neg (fun h : stn b s ∧ stn b t => ht h.2)]; rfl
  · rw [if_neg hs, if_neg (fun h : stn b s ∧ stn b t => hs h.1)]; rfl

noncomputable def apart (b : Bx) (s t : Int) : List Int × Bool × Int := if V b then (if stn b s ∧ stn b t then ((tell b b s t).1, (tell b b s t).2, 0) else ([], false, 4)) else ([], false, 1)

theorem stn_in {b : Bx} {s : Int} (h : stn b s) : inB b s := ⟨h.1, by have := h.2; omega⟩

theorem f48 (b : Bx) (s t : Int) : implf48 300 b s t = some (apart b s t) := by
  unfold implf48 apart
  have e : ((List.replicate 2 (0 : Int)).set 0 s).set 1 t = [s, t] := rfl
  rw [e]
  by_cases hv : V b
  · rw [f70b b hv, if_pos hv]
    simp only [obS, ibne, cnot, cdec]
    by_cases h : stn b s ∧ stn b t
    · simp only [if_pos h]
      rw [if_pos trivial, f77 hv hv (stn_in h.1) (stn_in h.2)]; rfl
    · simp only [if_neg h]
      rw [if_neg (by omega)]
  · rw [if_neg hv]
    unfold implf70
    rw [f30 300 (by omega), if_neg hv]
    simp only [obS, ibne, cnot, cdec]
    rw [if_neg (by omega)]
    simp only [obS]
    rw [if_neg (by omega)]

end Go.Proofs.Ythdmngalhppkcaa
