/- EchoHomes -/
import Derived.Test.YtdgibokmaannjaaRows
import Derived.Test.YtdgibokmaannjaaPureEchoHomes
import Derived.Test.YtdgibokmaannjaaPg
import Derived.WalkKit
import Derived.ProofKit
import Derived.OpenShut
import Derived.ShutString
import Derived.ChangeOld
import Derived.Below
import Derived.SizedLaws
namespace Go.Proofs.Ytdgibokmaannjaa.echoHomes
open Go Go.Pv Go.ChangeShapes Go.WideShapes Go.ChangeAt Go.RowKit
set_option linter.unusedVariables false
theorem own : ownKnob Try.prog.godebug = none := by kernel_rfl
theorem laidOut : laidOutB Try.prog = true := by kernel_rfl
set_option maxRecDepth 100000 in
theorem lifted (os : Os) (started : os.Started) (H : Type) (enc : TypeId × Value → H) :
    ReturnsInHanded {} Try.checked os 5 .any (Rows.echoHomesSpec.pre6 enc Try.prog Try.f5 Rows.echoHomesRow.domain false) (Rows.echoHomesSpec.post enc Try.prog Try.f5 false true false false) :=
  law_lifted (C := Try.checked) (tl := tl) tl_ok own started (by kernel_rfl) Try.func5 laidOut
    (ChangeSpec.witness6 (enc := enc) (C := Try.checked) false ⟨#[], #[.slice none 0 0, .slice none 0 0], []⟩ 8 (by kernel_rfl) (by kernel_rfl) (by kernel_rfl) (by kernel_rfl))
    rfl rfl Try.underlying4 (ts := [22, 22]) rfl (by kernel_rfl) (by kernel_rfl)
    (fun ds h => match ds, h with | [d0, d1], _ => rfl) (fun k x => implf5 k x.1 x.2.1) () (fun k => e5_ok k) pureEchoHomes
theorem over : Rows.echoHomesRow.holds Try.pinned (OpenSpec.ofChange Rows.echoHomesSpec) :=
  OpenClaim.holds_of_wide 5 Try.f5 rfl rfl rfl rfl rfl rfl rfl ⟨rfl, rfl, rfl, rfl, rfl⟩ rfl rfl rfl rfl rfl (by kernel_rfl) Try.func5 (by kernel_rfl)
    (of_decide_eq_true (by kernel_rfl)) (by unfold Func.isWrapper; first | (rw [if_pos (by decide +kernel)]; kernel_rfl) | (rw [if_neg (by decide +kernel)]; exact ⟨rfl, rfl⟩))
    (fun os started H enc _ => lifted os started H enc)
theorem proved : Rows.EchoHomesSaid := over
#print axioms proved
end Go.Proofs.Ytdgibokmaannjaa.echoHomes
namespace Go.Proofs.Ytdgibokmaannjaa
/-- The row, under a short name, for the claim. -/
theorem echoHomes_holds : Rows.EchoHomesSaid := echoHomes.proved
end Go.Proofs.Ytdgibokmaannjaa
