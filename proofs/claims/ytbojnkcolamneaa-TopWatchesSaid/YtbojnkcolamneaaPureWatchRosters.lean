/- WatchRosters: what is to be shown of the readings. -/
import Derived.Test.YtbojnkcolamneaaM5
set_option linter.unusedVariables false
namespace Go.Proofs.Ytbojnkcolamneaa
open Go Go.Pv Classical

/-- Those that run at a moment have keepers of their own. -/
theorem cnt_dif {l : List Shf} {r : List Int} (hl : ∀ s ∈ l, okS s) (hr : r.length = l.length) (hf : fair l r) (m : Int) : cnt l m ≤ dif r := by
  let run := (List.range l.length).filter fun i => runsB (l.getD i z3) m
  have hlen : run.length = cnt l m := by
    show ((List.range l.length).filter fun i => runsB (l.getD i z3) m).length = _
    rw [← List.countP_eq_length_filter]
    unfold cnt
    have e : l = (List.range l.length).map fun i => l.getD i z3 := by
      refine List.ext_getElem (by simp) fun i h1 h2 => ?_
      simp [List.getD, h1]
    conv => rhs; rw [e]
    rw [List.countP_map]
    rfl
  have hmem : ∀ i ∈ run, i < l.length ∧ rn (l.getD i z3) m := fun i hi => ⟨List.mem_range.1 (List.mem_filter.1 hi).1, runsB_iff.1 (List.mem_filter.1 hi).2⟩
  have hnd : (run.map fun i => r.getD i 0).Nodup := by
    rw [List.nodup_iff_pairwise_ne, List.pairwise_map]
    have h1 : run.Pairwise (fun a b => a < b) := List.pairwise_lt_range.filter _
    refine List.Pairwise.imp_of_mem (fun {a b} ha hb hab e => ?_) h1
    obtain ⟨ha1, ha2⟩ := hmem a ha
    obtain ⟨hb1, hb2⟩ := hmem b hb
    exact hf b hb1 a hab ⟨e.symm, (ov_iff (hl _ (getD_mem z3 hb1)) (hl _ (getD_mem z3 ha1))).2 ⟨m, hb2, ha2⟩⟩
  have := nodup_sub (b := (news r r.length).map fun i => r.getD i 0) hnd (fun x hx => by
    obtain ⟨i, hi, rfl⟩ := List.mem_map.1 hx
    exact ((news_vals r).2 _).2 (getD_mem 0 (by rw [hr]; exact (hmem i hi).1)))
  rw [List.length_map, List.length_map, hlen] at this
  exact this
theorem coreRosters (l : List Shf) (hl : ∀ s ∈ l, inS s) (r : List Int) : implf3 5000 l r = some true := by
  unfold implf3
  rw [show ((List.replicate 1 ([] : List Int)).set 0 r) = [r] from rfl, f19_1 5000 (by omega), sane_ok]
  simp only [obS, cdec, ibeq, ibne, cnot]
  by_cases h : lng l [r]
  · rw [if_pos h]
  · rw [if_neg h]
    have h100 : r.length ≤ 100 := by
      rcases Nat.lt_or_ge 100 r.length with g | g
      · exact absurd (show lng l [r] from .inl ⟨r, by simp, g⟩) h
      · exact g
    rw [f21 5000 (by omega) l hl r h100, f22 5000 (by omega) l r h100, f23' 5000 (by omega) l hl]
    simp only [obS, if_true]
    by_cases g : (crr l r).2 = 0
    · rw [if_pos g]
      obtain ⟨he, hrl, _, hf, ec⟩ := crr_ok g
      have hV := er_ok.1 he
      have hp := pk_is hl he
      have e : pkr l = ((pk l).1, ((pk l).2 : Int), 0) := by unfold pkr; rw [if_pos he]
      rw [e, ec]
      simp only [if_true]
      have hle : (pk l).2 ≤ dif r := by
        rcases hp.2 with ⟨h1, _⟩ | ⟨_, h2, _⟩
        · omega
        · rw [← h2]; exact cnt_dif hV.2 hrl hf _
      rw [if_pos (by show ((dif r : Nat) : Int) ≥ _; omega)]
    · rw [if_neg g]
theorem pureWatchRosters : ∀ x, wfAll tl [22, 23] x → ∃ k, implf3 k x.1 x.2.1 = some true := fun x hx =>
  ⟨5000, coreRosters x.1 (fun s hs => wf_shf (hx.1.2 s hs)) x.2.1⟩
end Go.Proofs.Ytbojnkcolamneaa
