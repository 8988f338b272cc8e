/- Scaled cliffs; the sums and the differences of two rows. -/
import Derived.Test.YtdgibokmaannjaaM6
set_option linter.unusedVariables false
set_option linter.unusedSimpArgs false
namespace Go.Proofs.Ytdgibokmaannjaa
open Go Go.Pv Classical

end Go.Proofs.Ytdgibokmaannjaa
