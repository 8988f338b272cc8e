/- WatchSets: what is to be shown of the readings. -/
import Derived.Test.YtbojnkcolamneaaM11
set_option linter.unusedVariables false
namespace Go.Proofs.Ytbojnkcolamneaa
open Go Go.Pv Classical

theorem coreSets (l : List Shf) (hl : ∀ s ∈ l, inS s) (r : List Int) : implf15 5000 l r = some true := by
  unfold implf15
  rw [show ((List.replicate 1 ([] : List Int)).set 0 r) = [r] from rfl, f19_1 5000 (by omega), sane_ok]
  simp only [obS, cdec, ibeq, ibne, cnot]
  by_cases h : lng l [r]
  · rw [if_pos h]
  · rw [if_neg h]
    have h100 : r.length ≤ 100 := by
      rcases Nat.lt_or_ge 100 r.length with g | g
      · exact absurd (show lng l [r] from .inl ⟨r, by simp, g⟩) h
      · exact g
    rw [f42 5000 (by omega) l hl r h100, f26 5000 (by omega) l r h100, f40 5000 (by omega) l hl]
    simp only [obS, if_true]
    by_cases g : (ca l r).2 = 0
    · obtain ⟨he, hal, ec⟩ := ca_inv g
      have hV := er_ok.1 he
      rcases f24 5000 (by omega) l hl with ⟨he', _⟩ | ⟨_, x, v, hr, g1, g2, g3⟩
      · exact absurd he he'
      · rw [if_pos g, ec, hr, if_pos he]
        simp only [obS, if_true]
        have k1 := al_most hV hal
        have k2 := g3 r hal
        rw [if_pos (by rw [alset_len]; omega), f28 5000 hV.2 (isAl_in hal) (by omega) (by omega)]
        simp only [obS]
        rw [if_pos k2]
    · rw [if_neg g]
theorem pureWatchSets : ∀ x, wfAll tl [22, 23] x → ∃ k, implf15 k x.1 x.2.1 = some true := fun x hx =>
  ⟨5000, coreSets x.1 (fun s hs => wf_shf (hx.1.2 s hs)) x.2.1⟩
end Go.Proofs.Ytbojnkcolamneaa
