/- EchoSums: what is to be shown of the readings. -/
import Derived.Test.YtdgibokmaannjaaM8
set_option linter.unusedVariables false
namespace Go.Proofs.Ytdgibokmaannjaa
open Go Go.Pv
theorem pureEchoSums : ∀ x, wfAll tl [22, 22] x → ∃ k, implf3 k x.1 x.2.1 = some true := fun x _ => ⟨5000, sums_all x.1 x.2.1⟩
end Go.Proofs.Ytdgibokmaannjaa
