/- EchoShortest -/
import Derived.Test.YtdgibokmaannjaaRows
import Derived.Test.YtdgibokmaannjaaPureEchoShortest
import Derived.Test.YtdgibokmaannjaaPi
import Derived.WalkKit
import Derived.ProofKit
import Derived.OpenShut
import Derived.ShutString
import Derived.ChangeOld
import Derived.Below
import Derived.SizedLaws
namespace Go.Proofs.Ytdgibokmaannjaa.echoShortest
open Go Go.Pv Go.ChangeShapes Go.WideShapes Go.ChangeAt Go.RowKit
set_option linter.unusedVariables false
theorem own : ownKnob Try.prog.godebug = none := by kernel_rfl
theorem laidOut : laidOutB Try.prog = true := by kernel_rfl
set_option maxRecDepth 100000 in
theorem lifted (os : Os) (started : os.Started) (H : Type) (enc : TypeId × Value → H) :
    ReturnsInHanded {} Try.checked os 4 .any (Rows.echoShortestSpec.pre6 enc Try.prog Try.f4 Rows.echoShortestRow.domain false) (Rows.echoShortestSpec.post enc Try.prog Try.f4 false true false false) :=
  law_lifted (C := Try.checked) (tl := tl) tl_ok own started (by kernel_rfl) Try.func4 laidOut
    (ChangeSpec.witness6 (enc := enc) (C := Try.checked) false ⟨#[], #[.int .i64 0], []⟩ 8 (by kernel_rfl) (by kernel_rfl) (by kernel_rfl) (by kernel_rfl))
    rfl rfl Try.underlying4 (ts := [3]) rfl (by kernel_rfl) (by kernel_rfl)
    (fun ds h => match ds, h with | [d0], _ => rfl) (fun k x => implf4 k x.1) () (fun k => e4_ok k) pureEchoShortest (fun _ _ q hq => by cases hq)
theorem over : Rows.echoShortestRow.holds Try.pinned (OpenSpec.ofChange Rows.echoShortestSpec) :=
  OpenClaim.holds_of_wide 4 Try.f4 rfl rfl rfl rfl rfl rfl rfl ⟨rfl, rfl, rfl, rfl, rfl⟩ rfl rfl rfl rfl rfl (by kernel_rfl) Try.func4 (by kernel_rfl)
    (of_decide_eq_true (by kernel_rfl)) (by unfold Func.isWrapper; first | (rw [if_pos (by decide +kernel)]; kernel_rfl) | (rw [if_neg (by decide +kernel)]; exact ⟨rfl, rfl⟩))
    (fun os started H enc _ => lifted os started H enc)
theorem proved : Rows.EchoShortestSaid := over
#print axioms proved
end Go.Proofs.Ytdgibokmaannjaa.echoShortest
namespace Go.Proofs.Ytdgibokmaannjaa
/-- The row, under a short name, for the claim. -/
theorem echoShortest_holds : Rows.EchoShortestSaid := echoShortest.proved
end Go.Proofs.Ytdgibokmaannjaa
