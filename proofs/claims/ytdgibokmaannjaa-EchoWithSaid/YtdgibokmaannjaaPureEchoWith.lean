/- EchoWith: what is to be shown of the readings. -/
import Derived.Test.YtdgibokmaannjaaM10
set_option linter.unusedVariables false
namespace Go.Proofs.Ytdgibokmaannjaa
open Go Go.Pv
theorem pureEchoWith : ∀ x, wfAll tl [22, 3] x → ∃ k, implf15 k x.1 x.2.1 = some true := fun x _ => ⟨5000, with_all x.1 x.2.1⟩
end Go.Proofs.Ytdgibokmaannjaa
