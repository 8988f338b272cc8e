/- WatchPays: what is to be shown of the readings. -/
import Derived.Test.YtbojnkcolamneaaM12
set_option linter.unusedVariables false
namespace Go.Proofs.Ytbojnkcolamneaa
open Go Go.Pv Classical

theorem corePays (l : List Shf) (hl : ∀ s ∈ l, inS s) : implf10 5000 l = some true := by
  unfold implf10
  rw [f19_0 5000 (by omega), f41 5000 (by omega) l hl, f25 5000 (by omega) l, sane_ok]
  simp only [obS, cdec, ibeq, ibne, cnot]
  by_cases h : lng l []
  · rw [if_pos h]
  · rw [if_neg h]
    by_cases he : er l = 0
    · have hV := er_ok.1 he
      obtain ⟨a, b, h1, h2⟩ := f27 5000 (by omega) hV
      obtain ⟨o1, o2, o3⟩ := posts_ok hV
      rw [if_pos he]
      simp only [he, if_true]
      rw [f46 5000 (by omega) l (posts l), h1]
      simp only [obS]
      rw [cp_pays he o2 o1 o3, posts_tot hV h2]
      simp
    · rw [if_neg he]
      simp only [if_true, he, if_false]
      simp
theorem pureWatchPays : ∀ x, wfAll tl [22] x → ∃ k, implf10 k x.1 = some true := fun x hx =>
  ⟨5000, corePays x.1 (fun s hs => wf_shf (hx.1.2 s hs))⟩
end Go.Proofs.Ytbojnkcolamneaa
