/- WatchKeepers: what is to be shown of the readings. -/
import Derived.Test.YtbojnkcolamneaaM6
import Derived.Test.YtbojnkcolamneaaPureWatchRosters
set_option linter.unusedVariables false
namespace Go.Proofs.Ytbojnkcolamneaa
open Go Go.Pv Classical

theorem roster_pk {l : List Shf} (he : er l = 0) (hl : ∀ s ∈ l, inS s) {r free : List Int} (h : Ros l (byB l) (byB l).length r free) : crr l r = (((pk l).2 : Int), 0) := by
  have hV := er_ok.1 he
  obtain ⟨g1, g2, g3⟩ := h.good hV hl
  have hp := pk_is hl he
  have e : dif r = (pk l).2 := by
    refine Nat.le_antisymm ?_ ?_
    · rw [g3]
      rcases h.most with h0 | ⟨m, h0⟩
      · omega
      · exact Nat.le_trans h0 (hp.1 m)
    · rcases hp.2 with ⟨h1, _⟩ | ⟨_, h2, _⟩
      · omega
      · rw [← h2]; exact cnt_dif hV.2 h.len g1 _
  unfold crr
  rw [if_neg (fun x => x he), if_neg (by
    rintro (x | x)
    · exact x h.len
    · exact x g2), if_pos g1, e]
theorem coreKeepers (l : List Shf) (hl : ∀ s ∈ l, inS s) : implf6 5000 l = some true := by
  unfold implf6
  rw [f19_0 5000 (by omega), f33' 5000 (by omega), sane_ok]
  simp only [obS, cdec, ibeq, ibne, cnot]
  by_cases h : lng l []
  · rw [if_pos h]
  · rw [if_neg h]
    rcases f32 5000 (by omega) l hl with ⟨he, hr⟩ | ⟨he, r, free, hr, hro⟩
    · rw [hr]
      have e : pkr l = (0, 0, er l) := by unfold pkr; rw [if_neg he]
      rw [e]
      simp only [obS, if_true, if_neg he]
      simp
    · rw [hr]
      have e : pkr l = ((pk l).1, ((pk l).2 : Int), 0) := by unfold pkr; rw [if_pos he]
      rw [e]
      simp only [obS, if_true]
      have h12 : r.length ≤ 100 := by rw [hro.len]; have := (er_ok.1 he).1; omega
      rw [f22 5000 (by omega) l r h12, roster_pk he hl hro]
      simp only [obS, if_true]
theorem pureWatchKeepers : ∀ x, wfAll tl [22] x → ∃ k, implf6 k x.1 = some true := fun x hx =>
  ⟨5000, coreKeepers x.1 (fun s hs => wf_shf (hx.1.2 s hs))⟩
end Go.Proofs.Ytbojnkcolamneaa
