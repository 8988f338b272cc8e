/- EchoMirrors: what is to be shown of the readings. -/
import Derived.Test.YtdgibokmaannjaaM6
set_option linter.unusedVariables false
namespace Go.Proofs.Ytdgibokmaannjaa
open Go Go.Pv
theorem pureEchoMirrors : ∀ x, wfAll tl [22] x → ∃ k, implf11 k x.1 = some true := fun x _ => ⟨5000, mirrors_all x.1⟩
end Go.Proofs.Ytdgibokmaannjaa
