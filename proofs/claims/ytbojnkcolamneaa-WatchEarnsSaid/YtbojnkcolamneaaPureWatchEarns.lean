/- WatchEarns: what is to be shown of the readings. -/
import Derived.Test.YtbojnkcolamneaaM11
set_option linter.unusedVariables false
namespace Go.Proofs.Ytbojnkcolamneaa
open Go Go.Pv Classical

theorem coreEarns (l : List Shf) (hl : ∀ s ∈ l, inS s) : implf4 5000 l = some true := by
  unfold implf4
  rw [f19_0 5000 (by omega), f25 5000 (by omega) l, sane_ok]
  simp only [obS, cdec, ibeq, ibne, cnot]
  by_cases h : lng l []
  · rw [if_pos h]
  · rw [if_neg h]
    rcases f24 5000 (by omega) l hl with ⟨he, hr⟩ | ⟨he, x, v, hr, g1, g2, g3⟩
    · rw [hr, obS]
      simp only [if_true, he, if_false]
      simp
    · have hV := er_ok.1 he
      have h12 := hV.1
      have hx : x.length ≤ 12 := by
        have := isSt_len g1.1
        omega
      obtain ⟨a, b, h1, h2⟩ := f27 5000 (by omega) hV
      have hb : v = b := by
        obtain ⟨k1, _, y, k2, k3⟩ := h2
        have := (k1 x g1).2
        have := g3 y k2
        omega
      rw [hr, obS, f26 5000 (by omega) l x (by omega), h1, f28 5000 hV.2 (isAl_in g1) (by omega) (by omega)]
      simp only [obS]
      rw [ca_al he g1]
      simp [he, hb, g2]
theorem pureWatchEarns : ∀ x, wfAll tl [22] x → ∃ k, implf4 k x.1 = some true := fun x hx =>
  ⟨5000, coreEarns x.1 (fun s hs => wf_shf (hx.1.2 s hs))⟩
end Go.Proofs.Ytbojnkcolamneaa
