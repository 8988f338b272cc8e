/- EchoChecks: what is to be shown of the readings. -/
import Derived.Test.YtdgibokmaannjaaM3
set_option linter.unusedVariables false
namespace Go.Proofs.Ytdgibokmaannjaa
open Go Go.Pv
theorem pureEchoChecks : ∀ x, wfAll tl [22, 22] x → ∃ k, implf7 k x.1 x.2.1 = some true := fun x _ => ⟨5000, checks_all x.1 x.2.1⟩
end Go.Proofs.Ytdgibokmaannjaa
