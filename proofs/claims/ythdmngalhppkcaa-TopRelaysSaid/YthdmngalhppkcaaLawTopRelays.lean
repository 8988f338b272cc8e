/- For every two boxes and word, TopRelays returns true: the smallest box answers alike, its states are reached and apart, and two boxes answer alike exactly if their smallest boxes are equal. Conditions: none beyond the row's own. -/
import Derived.Test.YthdmngalhppkcaaRows
import Derived.Test.YthdmngalhppkcaaPureTopRelays
import Derived.Test.YthdmngalhppkcaaPh
import Derived.WalkKit
import Derived.ProofKit
import Derived.OpenShut
import Derived.ShutString
import Derived.ChangeOld
import Derived.Below
import Derived.SizedLaws
namespace Go.Proofs.Ythdmngalhppkcaa.topRelays
open Go Go.Pv Go.ChangeShapes Go.WideShapes Go.ChangeAt Go.RowKit
set_option linter.unusedVariables false
theorem own : ownKnob Try.prog.godebug = none := by kernel_rfl
theorem laidOut : laidOutB Try.prog = true := by kernel_rfl
set_option maxRecDepth 100000 in
theorem lifted (os : Os) (started : os.Started) (H : Type) (enc : TypeId × Value → H) :
    ReturnsInHanded {} Try.checked os 18 .any (Rows.topRelaysSpec.pre6 enc Try.prog Try.f18 Rows.topRelaysRow.domain false) (Rows.topRelaysSpec.post enc Try.prog Try.f18 false true false false) :=
  law_lifted (C := Try.checked) (tl := tl) tl_ok own started (by kernel_rfl) Try.func18 laidOut
    (ChangeSpec.witness6 (enc := enc) (C := Try.checked) false ⟨#[], #[.agg #[.slice none 0 0, .slice none 0 0], .agg #[.slice none 0 0, .slice none 0 0], .slice none 0 0], []⟩ 8 (by kernel_rfl) (by kernel_rfl) (by kernel_rfl) (by kernel_rfl))
    rfl rfl Try.underlying4 (ts := [25, 25, 23]) rfl (by kernel_rfl) (by kernel_rfl)
    (fun ds h => match ds, h with | [d0, d1, d2], _ => rfl) (fun k x => implf18 k x.1 x.2.1 x.2.2.1) () (fun k => e18_ok k) pureTopRelays (fun _ _ q hq => by cases hq)
theorem over : Rows.topRelaysRow.holds Try.pinned (OpenSpec.ofChange Rows.topRelaysSpec) :=
  OpenClaim.holds_of_wide 18 Try.f18 rfl rfl rfl rfl rfl rfl rfl ⟨rfl, rfl, rfl, rfl, rfl⟩ rfl rfl rfl rfl rfl (by kernel_rfl) Try.func18 (by kernel_rfl)
    (of_decide_eq_true (by kernel_rfl)) (by unfold Func.isWrapper; first | (rw [if_pos (by decide +kernel)]; kernel_rfl) | (rw [if_neg (by decide +kernel)]; exact ⟨rfl, rfl⟩))
    (fun os started H enc _ => lifted os started H enc)
theorem proved : Rows.TopRelaysSaid := over
#print axioms proved
end Go.Proofs.Ythdmngalhppkcaa.topRelays
namespace Go.Proofs.Ythdmngalhppkcaa
/-- The row, under a short name, for the claim. -/
theorem topRelays_holds : Rows.TopRelaysSaid := topRelays.proved
end Go.Proofs.Ythdmngalhppkcaa
