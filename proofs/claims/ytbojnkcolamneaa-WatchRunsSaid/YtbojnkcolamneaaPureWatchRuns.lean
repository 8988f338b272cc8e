/- WatchRuns: what is to be shown of the readings. -/
import Derived.Test.YtbojnkcolamneaaM4
set_option linter.unusedVariables false
namespace Go.Proofs.Ytbojnkcolamneaa
open Go Go.Pv Classical

theorem run_len {l : List Shf} (m : Int) : (run l m).1.length ≤ l.length := by
  unfold run
  split
  · simp
  · split
    · exact atN_len l m _
    · simp
theorem coreRuns (l : List Shf) (hl : ∀ s ∈ l, inS s) (m : Int) : implf7 5000 l m = some true := by
  unfold implf7
  rw [f19_0 5000 (by omega), f34 5000 (by omega) l hl, f35 5000 (by omega), f23' 5000 (by omega) l hl, f33' 5000 (by omega), sane_ok]
  simp only [obS, cdec, ibeq, ibne, cnot]
  by_cases h : lng l []
  · rw [if_pos h]
  · rw [if_neg h]
    have h50 : l.length ≤ 50 := by
      rcases Nat.lt_or_ge 50 l.length with g | g
      · exact absurd (show lng l [] from .inr g) h
      · exact g
    have := run_len (l := l) m
    rw [f36_same 5000 _ (by omega) (by omega), obS]
    simp only [cond_true, if_true]
    by_cases g : (run l m).2 = 0
    · rw [if_pos g]
      have he : er l = 0 := by
        by_cases he : er l = 0
        · exact he
        · exfalso
          unfold run at g
          rw [if_pos he] at g
          exact he g
      have hp := pk_is hl he
      have e : (pkr l).2.1 = ((pk l).2 : Int) := by unfold pkr; rw [if_pos he]
      rw [e]
      have hle : (run l m).1.length ≤ (pk l).2 := by
        unfold run
        rw [if_neg (fun x => x he)]
        split
        · rw [atN_cnt]; exact hp.1 m
        · simp
      rw [if_pos (by omega)]
    · rw [if_neg g]
theorem pureWatchRuns : ∀ x, wfAll tl [22, 3] x → ∃ k, implf7 k x.1 x.2.1 = some true := fun x hx =>
  ⟨5000, coreRuns x.1 (fun s hs => wf_shf (hx.1.2 s hs)) x.2.1⟩
end Go.Proofs.Ytbojnkcolamneaa
