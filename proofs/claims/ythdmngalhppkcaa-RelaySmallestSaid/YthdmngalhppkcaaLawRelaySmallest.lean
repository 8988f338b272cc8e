/- For every box, RelaySmallest returns true: both texts make the same smallest box, it answers alike, and is its own smallest box. Conditions: none beyond the row's own. -/
import Derived.Test.YthdmngalhppkcaaRows
import Derived.Test.YthdmngalhppkcaaPureRelaySmallest
import Derived.Test.YthdmngalhppkcaaPg
import Derived.WalkKit
import Derived.ProofKit
import Derived.OpenShut
import Derived.ShutString
import Derived.ChangeOld
import Derived.Below
import Derived.SizedLaws
namespace Go.Proofs.Ythdmngalhppkcaa.relaySmallest
open Go Go.Pv Go.ChangeShapes Go.WideShapes Go.ChangeAt Go.RowKit
set_option linter.unusedVariables false
theorem own : ownKnob Try.prog.godebug = none := by kernel_rfl
theorem laidOut : laidOutB Try.prog = true := by kernel_rfl
set_option maxRecDepth 100000 in
theorem lifted (os : Os) (started : os.Started) (H : Type) (enc : TypeId × Value → H) :
    ReturnsInHanded {} Try.checked os 15 .any (Rows.relaySmallestSpec.pre6 enc Try.prog Try.f15 Rows.relaySmallestRow.domain false) (Rows.relaySmallestSpec.post enc Try.prog Try.f15 false true false false) :=
  law_lifted (C := Try.checked) (tl := tl) tl_ok own started (by kernel_rfl) Try.func15 laidOut
    (ChangeSpec.witness6 (enc := enc) (C := Try.checked) false ⟨#[], #[.agg #[.slice none 0 0, .slice none 0 0]], []⟩ 8 (by kernel_rfl) (by kernel_rfl) (by kernel_rfl) (by kernel_rfl))
    rfl rfl Try.underlying4 (ts := [25]) rfl (by kernel_rfl) (by kernel_rfl)
    (fun ds h => match ds, h with | [d0], _ => rfl) (fun k x => implf15 k x.1) () (fun k => e15_ok k) pureRelaySmallest
theorem over : Rows.relaySmallestRow.holds Try.pinned (OpenSpec.ofChange Rows.relaySmallestSpec) :=
  OpenClaim.holds_of_wide 15 Try.f15 rfl rfl rfl rfl rfl rfl rfl ⟨rfl, rfl, rfl, rfl, rfl⟩ rfl rfl rfl rfl rfl (by kernel_rfl) Try.func15 (by kernel_rfl)
    (of_decide_eq_true (by kernel_rfl)) (by unfold Func.isWrapper; first | (rw [if_pos (by decide +kernel)]; kernel_rfl) | (rw [if_neg (by decide +kernel)]; exact ⟨rfl, rfl⟩))
    (fun os started H enc _ => lifted os started H enc)
theorem proved : Rows.RelaySmallestSaid := over
#print axioms proved
end Go.Proofs.Ythdmngalhppkcaa.relaySmallest
namespace Go.Proofs.Ythdmngalhppkcaa
/-- The row, under a short name, for the claim. -/
theorem relaySmallest_holds : Rows.RelaySmallestSaid := relaySmallest.proved
end Go.Proofs.Ythdmngalhppkcaa
