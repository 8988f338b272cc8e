/- EchoFinds: what is to be shown of the readings. -/
import Derived.Test.YtdgibokmaannjaaM18
set_option linter.unusedVariables false
namespace Go.Proofs.Ytdgibokmaannjaa
open Go Go.Pv
theorem pureEchoFinds : ∀ x, wfAll tl [22] x → ∃ k, implf16 k x.1 = some true := fun x _ => ⟨5000, finds_all x.1⟩
end Go.Proofs.Ytdgibokmaannjaa
