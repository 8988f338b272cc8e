/- Moved, mirrored, heard, scaled. -/
import Derived.Test.YtdgibokmaannjaaM5
set_option linter.unusedVariables false
set_option linter.unusedSimpArgs false
namespace Go.Proofs.Ytdgibokmaannjaa
open Go Go.Pv Classical

def hf (s n : Int) : Int := 2 * max (n - s) (s - n)
noncomputable def hR (c : List Int) (s : Int) : List Int × Int := if V c then (if -1000 ≤ s ∧ s ≤ 1000 then (isort leI (c.map (hf s)), 0) else ([], 1)) else ([], vErr c)
end Go.Proofs.Ytdgibokmaannjaa
