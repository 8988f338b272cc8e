/- EchoMissing: what is to be shown of the readings. -/
import Derived.Test.YtdgibokmaannjaaM9
set_option linter.unusedVariables false
namespace Go.Proofs.Ytdgibokmaannjaa
open Go Go.Pv
theorem pureEchoMissing : ∀ x, wfAll tl [22] x → ∃ k, implf12 k x.1 = some true := fun x _ => ⟨5000, missing_all x.1⟩
end Go.Proofs.Ytdgibokmaannjaa
