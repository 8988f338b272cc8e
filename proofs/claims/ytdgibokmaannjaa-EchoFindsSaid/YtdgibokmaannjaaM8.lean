/- The sums and the differences of two rows. -/
import Derived.Test.YtdgibokmaannjaaM7
set_option linter.unusedVariables false
set_option linter.unusedSimpArgs false
namespace Go.Proofs.Ytdgibokmaannjaa
open Go Go.Pv Classical

def sums (c d : List Int) (s : Int) : List Int := c.flatMap fun a => d.map fun b => a + s * b
theorem inc_nodup {c : List Int} (h : c.Pairwise (fun a b => a < b)) : c.Nodup := List.nodup_iff_pairwise_ne.2 (h.imp fun h e => by omega)
end Go.Proofs.Ytdgibokmaannjaa
