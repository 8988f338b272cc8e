/- EchoRows: what is to be shown of the readings. -/
import Derived.Test.YtdgibokmaannjaaM2
set_option linter.unusedVariables false
namespace Go.Proofs.Ytdgibokmaannjaa
open Go Go.Pv
theorem pureEchoRows : ∀ x, wfAll tl [22] x → ∃ k, implf6 k x.1 = some true := fun x _ => ⟨5000, rows_all x.1⟩
end Go.Proofs.Ytdgibokmaannjaa
