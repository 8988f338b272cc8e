/- WatchLooks: what is to be shown of the readings. -/
import Derived.Test.YtbojnkcolamneaaM8
set_option linter.unusedVariables false
namespace Go.Proofs.Ytbojnkcolamneaa
open Go Go.Pv Classical

theorem coreLooks (l : List Shf) (hl : ∀ s ∈ l, inS s) (r : List Int) : implf14 5000 l r = some true := by
  unfold implf14
  rw [show ((List.replicate 1 ([] : List Int)).set 0 r) = [r] from rfl, f19_1 5000 (by omega), sane_ok]
  simp only [obS, cdec, ibeq, ibne, cnot]
  by_cases h : lng l [r]
  · rw [if_pos h]
  · rw [if_neg h]
    have h100 : r.length ≤ 100 := by
      rcases Nat.lt_or_ge 100 r.length with g | g
      · exact absurd (show lng l [r] from .inl ⟨r, by simp, g⟩) h
      · exact g
    rw [f43 5000 (by omega) l hl r h100, f38 5000 (by omega) l r h100, f40 5000 (by omega) l hl]
    simp only [obS, if_true]
    by_cases g : (cm l r).2 = 0
    · obtain ⟨he, _, hlo, ec⟩ := cm_inv g
      rw [if_pos g, ec, if_pos he]
      simp only [if_true]
      have := look_least (er_ok.1 he) hlo
      rw [if_pos (by rw [alset_len]; omega)]
    · rw [if_neg g]
theorem pureWatchLooks : ∀ x, wfAll tl [22, 23] x → ∃ k, implf14 k x.1 x.2.1 = some true := fun x hx =>
  ⟨5000, coreLooks x.1 (fun s hs => wf_shf (hx.1.2 s hs)) x.2.1⟩
end Go.Proofs.Ytbojnkcolamneaa
