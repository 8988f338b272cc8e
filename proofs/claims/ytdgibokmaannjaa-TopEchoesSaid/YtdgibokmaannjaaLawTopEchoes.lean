/- TopEchoes -/
import Derived.Test.YtdgibokmaannjaaRows
import Derived.Test.YtdgibokmaannjaaPureTopEchoes
import Derived.Test.YtdgibokmaannjaaPi
import Derived.WalkKit
import Derived.ProofKit
import Derived.OpenShut
import Derived.ShutString
import Derived.ChangeOld
import Derived.Below
import Derived.SizedLaws
namespace Go.Proofs.Ytdgibokmaannjaa.topEchoes
open Go Go.Pv Go.ChangeShapes Go.WideShapes Go.ChangeAt Go.RowKit
set_option linter.unusedVariables false
theorem own : ownKnob Try.prog.godebug = none := by kernel_rfl
theorem laidOut : laidOutB Try.prog = true := by kernel_rfl
set_option maxRecDepth 100000 in
theorem lifted (os : Os) (started : os.Started) (H : Type) (enc : TypeId × Value → H) :
    ReturnsInHanded {} Try.checked os 17 .any (Rows.topEchoesSpec.pre6 enc Try.prog Try.f17 Rows.topEchoesRow.domain false) (Rows.topEchoesSpec.post enc Try.prog Try.f17 false true false false) :=
  law_lifted (C := Try.checked) (tl := tl) tl_ok own started (by kernel_rfl) Try.func17 laidOut
    (ChangeSpec.witness6 (enc := enc) (C := Try.checked) false ⟨#[], #[.slice none 0 0, .slice none 0 0, .int .i64 0], []⟩ 8 (by kernel_rfl) (by kernel_rfl) (by kernel_rfl) (by kernel_rfl))
    rfl rfl Try.underlying4 (ts := [22, 22, 3]) rfl (by kernel_rfl) (by kernel_rfl)
    (fun ds h => match ds, h with | [d0, d1, d2], _ => rfl) (fun k x => implf17 k x.1 x.2.1 x.2.2.1) () (fun k => e17_ok k) pureTopEchoes (fun _ _ q hq => by cases hq)
theorem over : Rows.topEchoesRow.holds Try.pinned (OpenSpec.ofChange Rows.topEchoesSpec) :=
  OpenClaim.holds_of_wide 17 Try.f17 rfl rfl rfl rfl rfl rfl rfl ⟨rfl, rfl, rfl, rfl, rfl⟩ rfl rfl rfl rfl rfl (by kernel_rfl) Try.func17 (by kernel_rfl)
    (of_decide_eq_true (by kernel_rfl)) (by unfold Func.isWrapper; first | (rw [if_pos (by decide +kernel)]; kernel_rfl) | (rw [if_neg (by decide +kernel)]; exact ⟨rfl, rfl⟩))
    (fun os started H enc _ => lifted os started H enc)
theorem proved : Rows.TopEchoesSaid := over
#print axioms proved
end Go.Proofs.Ytdgibokmaannjaa.topEchoes
namespace Go.Proofs.Ytdgibokmaannjaa
/-- The row, under a short name, for the claim. -/
theorem topEchoes_holds : Rows.TopEchoesSaid := topEchoes.proved
end Go.Proofs.Ytdgibokmaannjaa
