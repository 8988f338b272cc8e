/- TopEchoes: what is to be shown of the readings. -/
import Derived.Test.YtdgibokmaannjaaM15
set_option linter.unusedVariables false
namespace Go.Proofs.Ytdgibokmaannjaa
open Go Go.Pv
theorem pureTopEchoes : ∀ x, wfAll tl [22, 22, 3] x → ∃ k, implf17 k x.1 x.2.1 x.2.2.1 = some true := fun x _ => ⟨5000, top_all x.1 x.2.1 x.2.2.1⟩
end Go.Proofs.Ytdgibokmaannjaa
