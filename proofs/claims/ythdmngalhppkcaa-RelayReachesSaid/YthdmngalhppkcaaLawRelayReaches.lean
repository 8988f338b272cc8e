/- For every box and state, RelayReaches returns true: both texts find the same states that words lead to and the same word that leads to the state, and it does. Conditions: none beyond the row's own. -/
import Derived.Test.YthdmngalhppkcaaRows
import Derived.Test.YthdmngalhppkcaaPureRelayReaches
import Derived.Test.YthdmngalhppkcaaPh
import Derived.WalkKit
import Derived.ProofKit
import Derived.OpenShut
import Derived.ShutString
import Derived.ChangeOld
import Derived.Below
import Derived.SizedLaws
namespace Go.Proofs.Ythdmngalhppkcaa.relayReaches
open Go Go.Pv Go.ChangeShapes Go.WideShapes Go.ChangeAt Go.RowKit
set_option linter.unusedVariables false
theorem own : ownKnob Try.prog.godebug = none := by kernel_rfl
theorem laidOut : laidOutB Try.prog = true := by kernel_rfl
set_option maxRecDepth 100000 in
theorem lifted (os : Os) (started : os.Started) (H : Type) (enc : TypeId × Value → H) :
    ReturnsInHanded {} Try.checked os 17 .any (Rows.relayReachesSpec.pre6 enc Try.prog Try.f17 Rows.relayReachesRow.domain false) (Rows.relayReachesSpec.post enc Try.prog Try.f17 false true false false) :=
  law_lifted (C := Try.checked) (tl := tl) tl_ok own started (by kernel_rfl) Try.func17 laidOut
    (ChangeSpec.witness6 (enc := enc) (C := Try.checked) false ⟨#[], #[.agg #[.slice none 0 0, .slice none 0 0], .int .i64 0], []⟩ 8 (by kernel_rfl) (by kernel_rfl) (by kernel_rfl) (by kernel_rfl))
    rfl rfl Try.underlying4 (ts := [25, 3]) rfl (by kernel_rfl) (by kernel_rfl)
    (fun ds h => match ds, h with | [d0, d1], _ => rfl) (fun k x => implf17 k x.1 x.2.1) () (fun k => e17_ok k) pureRelayReaches (fun _ _ q hq => by cases hq)
theorem over : Rows.relayReachesRow.holds Try.pinned (OpenSpec.ofChange Rows.relayReachesSpec) :=
  OpenClaim.holds_of_wide 17 Try.f17 rfl rfl rfl rfl rfl rfl rfl ⟨rfl, rfl, rfl, rfl, rfl⟩ rfl rfl rfl rfl rfl (by kernel_rfl) Try.func17 (by kernel_rfl)
    (of_decide_eq_true (by kernel_rfl)) (by unfold Func.isWrapper; first | (rw [if_pos (by decide +kernel)]; kernel_rfl) | (rw [if_neg (by decide +kernel)]; exact ⟨rfl, rfl⟩))
    (fun os started H enc _ => lifted os started H enc)
theorem proved : Rows.RelayReachesSaid := over
#print axioms proved
end Go.Proofs.Ythdmngalhppkcaa.relayReaches
namespace Go.Proofs.Ythdmngalhppkcaa
/-- The row, under a short name, for the claim. -/
theorem relayReaches_holds : Rows.RelayReachesSaid := relayReaches.proved
end Go.Proofs.Ythdmngalhppkcaa
