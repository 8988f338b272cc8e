/- WatchShifts: what is to be shown of the readings. -/
import Derived.Test.YtbojnkcolamneaaM2
set_option linter.unusedVariables false
namespace Go.Proofs.Ytbojnkcolamneaa
open Go Go.Pv Classical

theorem coreShifts (l : List Shf) (hl : ∀ s ∈ l, inS s) (i j : Int) : implf5 5000 l i j = some true := by
  unfold implf5
  rw [f19_0 5000 (by omega), f29 5000 (by omega) l hl, f30 5000 (by omega), f31 5000 (by omega) l hl, f25 5000 (by omega), sane_ok]
  simp only [obS, cdec, ibeq]
  by_cases h : lng l []
  · rw [if_pos h]
  · rw [if_neg h]
    simp
theorem pureWatchShifts : ∀ x, wfAll tl [22, 3, 3] x → ∃ k, implf5 k x.1 x.2.1 x.2.2.1 = some true := fun x hx =>
  ⟨5000, coreShifts x.1 (fun s hs => wf_shf (hx.1.2 s hs)) x.2.1 x.2.2.1⟩
end Go.Proofs.Ytbojnkcolamneaa
