/- EchoFinds -/
import Derived.Test.YtdgibokmaannjaaRows
import Derived.Test.YtdgibokmaannjaaPureEchoFinds
import Derived.Test.YtdgibokmaannjaaPi
import Derived.WalkKit
import Derived.ProofKit
import Derived.OpenShut
import Derived.ShutString
import Derived.ChangeOld
import Derived.Below
import Derived.SizedLaws
namespace Go.Proofs.Ytdgibokmaannjaa.echoFinds
open Go Go.Pv Go.ChangeShapes Go.WideShapes Go.ChangeAt Go.RowKit
set_option linter.unusedVariables false
theorem own : ownKnob Try.prog.godebug = none := by kernel_rfl
theorem laidOut : laidOutB Try.prog = true := by kernel_rfl
set_option maxRecDepth 100000 in
theorem lifted (os : Os) (started : os.Started) (H : Type) (enc : TypeId × Value → H) :
    ReturnsInHanded {} Try.checked os 16 .any (Rows.echoFindsSpec.pre6 enc Try.prog Try.f16 Rows.echoFindsRow.domain false) (Rows.echoFindsSpec.post enc Try.prog Try.f16 false true false false) :=
  law_lifted (C := Try.checked) (tl := tl) tl_ok own started (by kernel_rfl) Try.func16 laidOut
    (ChangeSpec.witness6 (enc := enc) (C := Try.checked) false ⟨#[], #[.slice none 0 0], []⟩ 8 (by kernel_rfl) (by kernel_rfl) (by kernel_rfl) (by kernel_rfl))
    rfl rfl Try.underlying4 (ts := [22]) rfl (by kernel_rfl) (by kernel_rfl)
    (fun ds h => match ds, h with | [d0], _ => rfl) (fun k x => implf16 k x.1) () (fun k => e16_ok k) pureEchoFinds (fun _ _ q hq => by cases hq)
theorem over : Rows.echoFindsRow.holds Try.pinned (OpenSpec.ofChange Rows.echoFindsSpec) :=
  OpenClaim.holds_of_wide 16 Try.f16 rfl rfl rfl rfl rfl rfl rfl ⟨rfl, rfl, rfl, rfl, rfl⟩ rfl rfl rfl rfl rfl (by kernel_rfl) Try.func16 (by kernel_rfl)
    (of_decide_eq_true (by kernel_rfl)) (by unfold Func.isWrapper; first | (rw [if_pos (by decide +kernel)]; kernel_rfl) | (rw [if_neg (by decide +kernel)]; exact ⟨rfl, rfl⟩))
    (fun os started H enc _ => lifted os started H enc)
theorem proved : Rows.EchoFindsSaid := over
#print axioms proved
end Go.Proofs.Ytdgibokmaannjaa.echoFinds
namespace Go.Proofs.Ytdgibokmaannjaa
/-- The row, under a short name, for the claim. -/
theorem echoFinds_holds : Rows.EchoFindsSaid := echoFinds.proved
end Go.Proofs.Ytdgibokmaannjaa
