/- WatchSpells: what is to be shown of the readings. -/
import Derived.Test.YtbojnkcolamneaaM15
set_option linter.unusedVariables false
set_option linter.unusedSimpArgs false
namespace Go.Proofs.Ytbojnkcolamneaa
open Go Go.Pv Classical

theorem coreSpells (l : List Shf) (hl : ∀ s ∈ l, inS s) : implf16 5000 l = some true := by
  unfold implf16
  rw [f19_0 5000 (by omega), sane_ok]
  simp only [obS, cdec, ibeq, ibne, cnot]
  by_cases h : lng l []
  · rw [if_pos h]
  · rw [if_neg h, f39 5000 (by omega) l hl, f50 5000 (by omega) l, f45 5000 (by omega) l hl, f51 5000 (by omega) l]
    simp only [obS, if_true]
    by_cases g : er l = 0
    · have hV := er_ok.1 g
      have hV' := spl_V hV
      have he' := er_ok.2 hV'
      have h12 := hV'.1
      have hl' : ∀ s ∈ (spl l).reverse, inS s := fun s hs => okS_in' (hV'.2 s hs)
      simp only [if_pos g]
      rw [f49 5000 _ _ (by omega) (by omega)]
      simp only [obS, decide_true, cond_true, if_true]
      rw [f39 5000 (by omega) _ hl', f40 5000 (by omega) _ hl']
      simp only [obS, if_pos he', if_true, covl_spl hV]
      rw [if_pos (by rw [alset_len, alone_spl hV])]
    · simp only [if_neg g]
      rw [f49 5000 _ _ (by simp) (by simp)]
      simp only [obS, decide_true, cond_true, if_true]
theorem pureWatchSpells : ∀ x, wfAll tl [22] x → ∃ k, implf16 k x.1 = some true := fun x hx =>
  ⟨5000, coreSpells x.1 (fun s hs => wf_shf (hx.1.2 s hs))⟩
end Go.Proofs.Ytbojnkcolamneaa
