/- WatchMirrors: what is to be shown of the readings. -/
import Derived.Test.YtbojnkcolamneaaM15
set_option linter.unusedVariables false
set_option linter.unusedSimpArgs false
namespace Go.Proofs.Ytbojnkcolamneaa
open Go Go.Pv Classical

theorem l17 (K : Nat) (x y a : List Shf) (ha : a.length ≤ 50) (hK : 60 < K) : ∃ b, impll17_0 K K x y a 0 = some (b, (a.length : Int), ()) := by
  obtain ⟨t, h1, h2⟩ := invTo (fun k j (t : List Shf) => impll17_0 K k x y t (j : Int)) a.length (fun j t => t.length = a.length) (fun t => (t, (a.length : Int), ()))
    (fun k j t hj hI => by
      refine ⟨t.set j ((t.getD j z3).1, (t.getD j z3).2.1, -1), ?_, by simpa using hI⟩
      show impll17_0 K (k + 1) x y t j = impll17_0 K k x y _ ((j + 1 : Nat) : Int)
      rw [impll17_0, implb17_0]
      simp only [cdec]
      rw [if_pos (by omega), if_pos (by omega), wrapS (by omega)]
      rfl)
    (fun k t hI => by
      show impll17_0 K (k + 1) x y t a.length = _
      rw [impll17_0, implb17_0]
      simp only [cdec]
      rw [if_neg (by omega)]) K 0 a (by omega) (Nat.zero_le _) rfl
  exact ⟨t, h1⟩
theorem coreMirrors (l : List Shf) (hl : ∀ s ∈ l, inS s) : implf17 5000 l = some true := by
  unfold implf17
  have e0 : List.replicate 0 ((0 : Int), (0 : Int), (0 : Int)) ++ l = l := rfl
  have e00 : (List.replicate 0 ((0 : Int), (0 : Int), (0 : Int))).length = 0 := rfl
  rw [f19_0 5000 (by omega), sane_ok]
  simp only [obS, cdec, ibeq, ibne, cnot, e0, e00]
  by_cases h : lng l []
  · rw [if_pos h]
  · have h50 : l.length ≤ 50 := by
      rcases Nat.lt_or_ge 50 l.length with g | g
      · exact absurd (show lng l [] from .inr g) h
      · exact g
    rw [if_neg h, if_pos (by omega), f52 5000 (by omega) l hl, f53 5000 (by omega) l, f49 5000 l l (by omega) (by omega)]
    simp only [obS, if_true, decide_true, cond_true]
    by_cases g : er l = 0
    · have hV := er_ok.1 g
      have hm : (mir l).length ≤ 50 := by rw [mir, List.length_map]; exact h50
      simp only [if_pos g]
      rw [f49 5000 (mir l) _ (by omega) (by omega), f54 5000 (by omega) l hV]
      obtain ⟨b, hb⟩ := l17 5000 l l (mir l) hm (by omega)
      simp only [obS, decide_true, cond_true, if_true, hb]
    · simp only [if_neg g]
      rw [f49 5000 _ _ (by simp) (by simp)]
      obtain ⟨b, hb⟩ := l17 5000 l l [] (by simp) (by omega)
      simp only [obS, decide_true, cond_true, if_true, hb]
theorem pureWatchMirrors : ∀ x, wfAll tl [22] x → ∃ k, implf17 k x.1 = some true := fun x hx =>
  ⟨5000, coreMirrors x.1 (fun s hs => wf_shf (hx.1.2 s hs))⟩
end Go.Proofs.Ytbojnkcolamneaa
