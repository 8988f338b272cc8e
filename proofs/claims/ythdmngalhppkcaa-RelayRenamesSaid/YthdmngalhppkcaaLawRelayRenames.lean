/- For every box, numbers and word, RelayRenames returns true: both texts make the same box with renamed states, in new memory, and its answers are the same. Conditions: none beyond the row's own. -/
import Derived.Test.YthdmngalhppkcaaRows
import Derived.Test.YthdmngalhppkcaaPureRelayRenames
import Derived.Test.YthdmngalhppkcaaPg
import Derived.WalkKit
import Derived.ProofKit
import Derived.OpenShut
import Derived.ShutString
import Derived.ChangeOld
import Derived.Below
import Derived.SizedLaws
namespace Go.Proofs.Ythdmngalhppkcaa.relayRenames
open Go Go.Pv Go.ChangeShapes Go.WideShapes Go.ChangeAt Go.RowKit
set_option linter.unusedVariables false
theorem own : ownKnob Try.prog.godebug = none := by kernel_rfl
theorem laidOut : laidOutB Try.prog = true := by kernel_rfl
set_option maxRecDepth 100000 in
theorem lifted (os : Os) (started : os.Started) (H : Type) (enc : TypeId × Value → H) :
    ReturnsInHanded {} Try.checked os 10 .any (Rows.relayRenamesSpec.pre6 enc Try.prog Try.f10 Rows.relayRenamesRow.domain false) (Rows.relayRenamesSpec.post enc Try.prog Try.f10 false true false false) :=
  law_lifted (C := Try.checked) (tl := tl) tl_ok own started (by kernel_rfl) Try.func10 laidOut
    (ChangeSpec.witness6 (enc := enc) (C := Try.checked) false ⟨#[], #[.agg #[.slice none 0 0, .slice none 0 0], .slice none 0 0, .slice none 0 0], []⟩ 8 (by kernel_rfl) (by kernel_rfl) (by kernel_rfl) (by kernel_rfl))
    rfl rfl Try.underlying4 (ts := [25, 23, 23]) rfl (by kernel_rfl) (by kernel_rfl)
    (fun ds h => match ds, h with | [d0, d1, d2], _ => rfl) (fun k x => implf10 k x.1 x.2.1 x.2.2.1) () (fun k => e10_ok k) pureRelayRenames
theorem over : Rows.relayRenamesRow.holds Try.pinned (OpenSpec.ofChange Rows.relayRenamesSpec) :=
  OpenClaim.holds_of_wide 10 Try.f10 rfl rfl rfl rfl rfl rfl rfl ⟨rfl, rfl, rfl, rfl, rfl⟩ rfl rfl rfl rfl rfl (by kernel_rfl) Try.func10 (by kernel_rfl)
    (of_decide_eq_true (by kernel_rfl)) (by unfold Func.isWrapper; first | (rw [if_pos (by decide +kernel)]; kernel_rfl) | (rw [if_neg (by decide +kernel)]; exact ⟨rfl, rfl⟩))
    (fun os started H enc _ => lifted os started H enc)
theorem proved : Rows.RelayRenamesSaid := over
#print axioms proved
end Go.Proofs.Ythdmngalhppkcaa.relayRenames
namespace Go.Proofs.Ythdmngalhppkcaa
/-- The row, under a short name, for the claim. -/
theorem relayRenames_holds : Rows.RelayRenamesSaid := relayRenames.proved
end Go.Proofs.Ythdmngalhppkcaa
