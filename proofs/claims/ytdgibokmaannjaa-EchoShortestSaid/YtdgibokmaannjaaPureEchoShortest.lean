/- EchoShortest: the reading of the law is true of every number: the five lengths reckoned, all others refused alike. -/
import Derived.Test.YtdgibokmaannjaaF3
set_option maxRecDepth 1000000
set_option linter.unusedVariables false
set_option linter.unusedSimpArgs false
namespace Go.Proofs.Ytdgibokmaannjaa
open Go Go.Pv
theorem sane5 : implf19 5000 = some true := by kernel_rfl
theorem sh1 : implf4 5000 1 = some true := by kernel_rfl
theorem sh2 : implf4 5000 2 = some true := by kernel_rfl
theorem sh3 : implf4 5000 3 = some true := by kernel_rfl
theorem sh4 : implf4 5000 4 = some true := by kernel_rfl
theorem sh5 : implf4 5000 5 = some true := by kernel_rfl
theorem shortest_all (n : Int) : implf4 5000 n = some true := by
  by_cases h : 1 ≤ n ∧ n ≤ 5
  · obtain rfl | rfl | rfl | rfl | rfl : n = 1 ∨ n = 2 ∨ n = 3 ∨ n = 4 ∨ n = 5 := by omega
    · exact sh1
    · exact sh2
    · exact sh3
    · exact sh4
    · exact sh5
  · have h1 : implf61 5000 n 1 5 = some false := by
      unfold implf61
      by_cases g : 1 ≤ n
      · have : ¬ n ≤ 5 := fun q => h ⟨g, q⟩
        simp [g, this]
      · simp [g]
    have h2 : implf63 5000 n 1 5 = some false := by
      unfold implf63
      by_cases g : 1 ≤ n
      · have : ¬ n ≤ 5 := fun q => h ⟨g, q⟩
        simp [g, this]
      · simp [g]
    have e1 : implf25 5000 n = some ([], 1) := by unfold implf25; rw [h1]; rfl
    have e2 : implf26 5000 n = some ([], 1) := by unfold implf26; rw [h2]; rfl
    unfold implf4
    rw [e1, e2]
    have h3 : implf24 5000 [] [] = some true := by kernel_rfl
    show (ob (implf24 5000 [] []) fun y3 => _) = _
    rw [h3]
    show (ob (implf19 5000) fun y4 => some y4) = _
    rw [sane5]
    rfl
theorem pureEchoShortest : ∀ x, wfAll tl [3] x → ∃ k, implf4 k x.1 = some true := fun x _ => ⟨5000, shortest_all x.1⟩
end Go.Proofs.Ytdgibokmaannjaa
