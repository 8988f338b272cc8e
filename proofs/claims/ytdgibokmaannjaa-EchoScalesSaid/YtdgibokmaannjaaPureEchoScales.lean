/- EchoScales: what is to be shown of the readings. -/
import Derived.Test.YtdgibokmaannjaaM7
set_option linter.unusedVariables false
namespace Go.Proofs.Ytdgibokmaannjaa
open Go Go.Pv
theorem pureEchoScales : ∀ x, wfAll tl [22, 3] x → ∃ k, implf14 k x.1 x.2.1 = some true := fun x _ => ⟨5000, scales_all x.1 x.2.1⟩
end Go.Proofs.Ytdgibokmaannjaa
