/- EchoAmong -/
import Derived.Test.YtdgibokmaannjaaRows
import Derived.Test.YtdgibokmaannjaaPureEchoAmong
import Derived.Test.YtdgibokmaannjaaPg
import Derived.WalkKit
import Derived.ProofKit
import Derived.OpenShut
import Derived.ShutString
import Derived.ChangeOld
import Derived.Below
import Derived.SizedLaws
namespace Go.Proofs.Ytdgibokmaannjaa.echoAmong
open Go Go.Pv Go.ChangeShapes Go.WideShapes Go.ChangeAt Go.RowKit
set_option linter.unusedVariables false
theorem own : ownKnob Try.prog.godebug = none := by kernel_rfl
theorem laidOut : laidOutB Try.prog = true := by kernel_rfl
set_option maxRecDepth 100000 in
theorem lifted (os : Os) (started : os.Started) (H : Type) (enc : TypeId × Value → H) :
    ReturnsInHanded {} Try.checked os 8 .any (Rows.echoAmongSpec.pre6 enc Try.prog Try.f8 Rows.echoAmongRow.domain false) (Rows.echoAmongSpec.post enc Try.prog Try.f8 false true false false) :=
  law_lifted (C := Try.checked) (tl := tl) tl_ok own started (by kernel_rfl) Try.func8 laidOut
    (ChangeSpec.witness6 (enc := enc) (C := Try.checked) false ⟨#[], #[.slice none 0 0], []⟩ 8 (by kernel_rfl) (by kernel_rfl) (by kernel_rfl) (by kernel_rfl))
    rfl rfl Try.underlying4 (ts := [22]) rfl (by kernel_rfl) (by kernel_rfl)
    (fun ds h => match ds, h with | [d0], _ => rfl) (fun k x => implf8 k x.1) () (fun k => e8_ok k) pureEchoAmong
theorem over : Rows.echoAmongRow.holds Try.pinned (OpenSpec.ofChange Rows.echoAmongSpec) :=
  OpenClaim.holds_of_wide 8 Try.f8 rfl rfl rfl rfl rfl rfl rfl ⟨rfl, rfl, rfl, rfl, rfl⟩ rfl rfl rfl rfl rfl (by kernel_rfl) Try.func8 (by kernel_rfl)
    (of_decide_eq_true (by kernel_rfl)) (by unfold Func.isWrapper; first | (rw [if_pos (by decide +kernel)]; kernel_rfl) | (rw [if_neg (by decide +kernel)]; exact ⟨rfl, rfl⟩))
    (fun os started H enc _ => lifted os started H enc)
theorem proved : Rows.EchoAmongSaid := over
#print axioms proved
end Go.Proofs.Ytdgibokmaannjaa.echoAmong
namespace Go.Proofs.Ytdgibokmaannjaa
/-- The row, under a short name, for the claim. -/
theorem echoAmong_holds : Rows.EchoAmongSaid := echoAmong.proved
end Go.Proofs.Ytdgibokmaannjaa
