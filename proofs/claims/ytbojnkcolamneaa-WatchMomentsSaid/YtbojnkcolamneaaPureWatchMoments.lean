/- WatchMoments: what is to be shown of the readings. -/
import Derived.Test.YtbojnkcolamneaaM9
set_option linter.unusedVariables false
namespace Go.Proofs.Ytbojnkcolamneaa
open Go Go.Pv Classical

theorem coreMoments (l : List Shf) (hl : ∀ s ∈ l, inS s) : implf8 5000 l = some true := by
  unfold implf8
  rw [f19_0 5000 (by omega), f37 5000 (by omega) l hl, f25 5000 (by omega) l, sane_ok]
  simp only [obS, cdec, ibeq, ibne, cnot]
  by_cases h : lng l []
  · rw [if_pos h]
  · rw [if_neg h]
    by_cases he : er l = 0
    · have hV := er_ok.1 he
      obtain ⟨a, b, h1, h2⟩ := f27 5000 (by omega) hV
      have h12 := hV.1
      have hf := fst_len l
      rw [if_pos he]
      simp only [he, if_true]
      rw [f38 5000 (by omega) l (moset l) (by rw [moset_len]; omega), h1]
      simp only [obS]
      rw [cm_look he (moset_ok hV).1 (moset_ok hV).2, moset_len, most_fst hV h2]
      simp
    · rw [if_neg he]
      simp only [if_true, he, if_false]
      simp
theorem pureWatchMoments : ∀ x, wfAll tl [22] x → ∃ k, implf8 k x.1 = some true := fun x hx =>
  ⟨5000, coreMoments x.1 (fun s hs => wf_shf (hx.1.2 s hs))⟩
end Go.Proofs.Ytbojnkcolamneaa
