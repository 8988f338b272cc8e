/- WatchWithout: what is to be shown of the readings. -/
import Derived.Test.YtbojnkcolamneaaM15
set_option linter.unusedVariables false
set_option linter.unusedSimpArgs false
namespace Go.Proofs.Ytbojnkcolamneaa
open Go Go.Pv Classical

theorem coreWithout (l : List Shf) (hl : ∀ s ∈ l, inS s) (i : Int) : implf18 5000 l i = some true := by
  unfold implf18
  rw [f19_0 5000 (by omega), sane_ok]
  simp only [obS, cdec, ibeq, ibne, cnot]
  by_cases h : lng l []
  · rw [if_pos h]
  · have h50 : l.length ≤ 50 := by
      rcases Nat.lt_or_ge 50 l.length with g | g
      · exact absurd (show lng l [] from .inr g) h
      · exact g
    rw [if_neg h, f55 5000 (by omega) l hl, f56 5000 (by omega) l]
    have hlen : (wot l i).1.length ≤ 50 := by
      unfold wot
      split
      · simp
      · split
        · exact Nat.le_trans (wo_sub l _).length_le h50
        · simp
    simp only [obS]
    rw [f49 5000 _ _ (by omega) (by omega)]
    simp only [obS, decide_true, cond_true, if_true]
    by_cases g : er l = 0
    · by_cases gx : ix l i
      · have ew : wot l i = (wo l i.toNat, 0) := by unfold wot; rw [if_neg (fun z => z g), if_pos gx]
        have gi := ix_iff.1 gx
        have hV := er_ok.1 g
        have hV' := wo_V hV i.toNat
        have he' := er_ok.2 hV'
        have hl' : ∀ s ∈ wo l i.toNat, inS s := fun s hs => okS_in' (hV'.2 s hs)
        have hi : i.toNat < l.length := by omega
        obtain ⟨x, v, e1, g1⟩ := f24' 5000 (by omega) l hl
        obtain ⟨y, u, e2, g2⟩ := f24' 5000 (by omega) (wo l i.toNat) hl'
        obtain ⟨a1, a2, a3⟩ := g1 g
        obtain ⟨b1, b2, b3⟩ := g2 he'
        rw [ew]
        simp only [if_true]
        rw [f23' 5000 (by omega) l hl, f23' 5000 (by omega) _ hl', f40 5000 (by omega) l hl, f40 5000 (by omega) _ hl', e1, e2, f39 5000 (by omega) l hl, f39 5000 (by omega) _ hl']
        unfold pkr
        simp only [obS, if_pos g, if_pos he', if_true]
        have q1 : (pk (wo l i.toNat)).2 ≤ (pk l).2 := isPk_wo (pk_is hl' he') (pk_is hl g)
        have q2 : (alset (wo l i.toNat)).length ≤ (alset l).length := by
          have := al_most hV (isAl_up hi (alset_ok hV'))
          rwa [List.length_map, ← alset_len] at this
        have q3 : u ≤ v := by
          have := a3 _ (isAl_up hi b1)
          rwa [pay_up hi y (isAl_in b1), b2] at this
        have q4 := covl_wo l i.toNat
        rw [if_pos (by omega), if_pos (by omega), if_pos q3, if_pos (by omega)]
      · have ew : wot l i = ([], 4) := by unfold wot; rw [if_neg (fun z => z g), if_neg gx]
        rw [ew]
        simp
    · have ew : wot l i = ([], er l) := by unfold wot; rw [if_pos g]
      rw [ew]
      simp only [if_neg g]
theorem pureWatchWithout : ∀ x, wfAll tl [22, 3] x → ∃ k, implf18 k x.1 x.2.1 = some true := fun x hx =>
  ⟨5000, coreWithout x.1 (fun s hs => wf_shf (hx.1.2 s hs)) x.2.1⟩
end Go.Proofs.Ytbojnkcolamneaa
