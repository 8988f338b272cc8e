/- EchoAmong: what is to be shown of the readings. -/
import Derived.Test.YtdgibokmaannjaaM13
set_option linter.unusedVariables false
namespace Go.Proofs.Ytdgibokmaannjaa
open Go Go.Pv
theorem pureEchoAmong : ∀ x, wfAll tl [22] x → ∃ k, implf8 k x.1 = some true := fun x _ => ⟨5000, among_all x.1⟩
end Go.Proofs.Ytdgibokmaannjaa
