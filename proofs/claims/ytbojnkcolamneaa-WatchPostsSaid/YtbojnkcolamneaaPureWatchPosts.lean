/- WatchPosts: what is to be shown of the readings. -/
import Derived.Test.YtbojnkcolamneaaM11
set_option linter.unusedVariables false
namespace Go.Proofs.Ytbojnkcolamneaa
open Go Go.Pv Classical

theorem corePosts (l : List Shf) (hl : ∀ s ∈ l, inS s) (p : List Pst) : implf13 5000 l p = some true := by
  unfold implf13
  rw [f19_0 5000 (by omega), f44 5000 (by omega) l hl p, f46 5000 (by omega) l p, sane_ok]
  simp only [obS, cdec, ibeq, ibne, cnot]
  by_cases h : lng l []
  · rw [if_pos h]
  · rw [if_neg h]
    by_cases h100 : (p.length : Int) > 100
    · rw [if_pos h100]
    · rw [if_neg h100]
      simp only [if_true]
      rcases f24 5000 (by omega) l hl with ⟨he, hr⟩ | ⟨he, x, v, hr, g1, g2, g3⟩
      · rw [hr, obS]
        by_cases g : (cp l p).2 = 0
        · exact absurd (cp_inv g).1 he
        · rw [if_neg g]
      · rw [hr, obS]
        by_cases g : (cp l p).2 = 0
        · obtain ⟨_, ho, hp, ec⟩ := cp_inv g
          have := pay_tot (er_ok.1 he).2 g1 hp fun q hq => (ho q hq).2.1
          rw [if_pos g, ec]
          simp only [if_true]
          rw [if_pos (by omega)]
        · rw [if_neg g]
theorem pureWatchPosts : ∀ x, wfAll tl [22, 50] x → ∃ k, implf13 k x.1 x.2.1 = some true := fun x hx =>
  ⟨5000, corePosts x.1 (fun s hs => wf_shf (hx.1.2 s hs)) x.2.1⟩
end Go.Proofs.Ytbojnkcolamneaa
