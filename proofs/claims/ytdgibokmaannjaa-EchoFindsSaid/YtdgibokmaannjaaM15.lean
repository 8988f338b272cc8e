/- TopEchoes: the plain part. -/
import Derived.Test.YtdgibokmaannjaaM14
set_option linter.unusedVariables false
set_option linter.unusedSimpArgs false
namespace Go.Proofs.Ytdgibokmaannjaa
open Go Go.Pv Classical

theorem V.nrm {c : List Int} (h : V c) : V (nrm c) := by
  unfold Go.Proofs.Ytdgibokmaannjaa.nrm
  split
  · exact h.zer.mir
  · exact h.zer
theorem nrm_nrm {c : List Int} (h : V c) : nrm (nrm c) = nrm c := by
  have hz := h.zer
  have e : nrm c = mir (zer c) ∨ nrm c = zer c := by
    unfold nrm
    split
    · exact .inl rfl
    · exact .inr rfl
  rcases e with e | e
  · rw [e, nrm_mir hz.pos, nrm_zer h.pos, e]
  · rw [e, nrm_zer h.pos, e]
end Go.Proofs.Ytdgibokmaannjaa
