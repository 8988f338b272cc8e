/- For every box and word, RelayRuns returns true: both texts agree which boxes are right, on the answer to a word and on the state behind it. Conditions: none beyond the row's own. -/
import Derived.Test.YthdmngalhppkcaaRows
import Derived.Test.YthdmngalhppkcaaPureRelayRuns
import Derived.Test.YthdmngalhppkcaaPg
import Derived.WalkKit
import Derived.ProofKit
import Derived.OpenShut
import Derived.ShutString
import Derived.ChangeOld
import Derived.Below
import Derived.SizedLaws
namespace Go.Proofs.Ythdmngalhppkcaa.relayRuns
open Go Go.Pv Go.ChangeShapes Go.WideShapes Go.ChangeAt Go.RowKit
set_option linter.unusedVariables false
theorem own : ownKnob Try.prog.godebug = none := by kernel_rfl
theorem laidOut : laidOutB Try.prog = true := by kernel_rfl
set_option maxRecDepth 100000 in
theorem lifted (os : Os) (started : os.Started) (H : Type) (enc : TypeId × Value → H) :
    ReturnsInHanded {} Try.checked os 5 .any (Rows.relayRunsSpec.pre6 enc Try.prog Try.f5 Rows.relayRunsRow.domain false) (Rows.relayRunsSpec.post enc Try.prog Try.f5 false true false false) :=
  law_lifted (C := Try.checked) (tl := tl) tl_ok own started (by kernel_rfl) Try.func5 laidOut
    (ChangeSpec.witness6 (enc := enc) (C := Try.checked) false ⟨#[], #[.agg #[.slice none 0 0, .slice none 0 0], .slice none 0 0], []⟩ 8 (by kernel_rfl) (by kernel_rfl) (by kernel_rfl) (by kernel_rfl))
    rfl rfl Try.underlying4 (ts := [25, 23]) rfl (by kernel_rfl) (by kernel_rfl)
    (fun ds h => match ds, h with | [d0, d1], _ => rfl) (fun k x => implf5 k x.1 x.2.1) () (fun k => e5_ok k) pureRelayRuns
theorem over : Rows.relayRunsRow.holds Try.pinned (OpenSpec.ofChange Rows.relayRunsSpec) :=
  OpenClaim.holds_of_wide 5 Try.f5 rfl rfl rfl rfl rfl rfl rfl ⟨rfl, rfl, rfl, rfl, rfl⟩ rfl rfl rfl rfl rfl (by kernel_rfl) Try.func5 (by kernel_rfl)
    (of_decide_eq_true (by kernel_rfl)) (by unfold Func.isWrapper; first | (rw [if_pos (by decide +kernel)]; kernel_rfl) | (rw [if_neg (by decide +kernel)]; exact ⟨rfl, rfl⟩))
    (fun os started H enc _ => lifted os started H enc)
theorem proved : Rows.RelayRunsSaid := over
#print axioms proved
end Go.Proofs.Ythdmngalhppkcaa.relayRuns
namespace Go.Proofs.Ythdmngalhppkcaa
/-- The row, under a short name, for the claim. -/
theorem relayRuns_holds : Rows.RelayRunsSaid := relayRuns.proved
end Go.Proofs.Ythdmngalhppkcaa
