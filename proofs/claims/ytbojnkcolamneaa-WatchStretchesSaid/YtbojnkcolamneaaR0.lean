/- The loops over functions of this layer: what they compute. -/
import Derived.Test.YtbojnkcolamneaaBase
set_option linter.unusedVariables false
namespace Go.Proofs.Ytbojnkcolamneaa
open Go Go.Pv
/-- A shift's data. -/
abbrev shT : Ty := .pr (.int .i64) (.pr (.int .i64) (.int .i64))
/-- Does a shift run at a moment? -/
def runsB (s : Int × Int × Int) (m : Int) : Bool := decide (s.1 ≤ m) && decide (m < s.2.1)
/-- The numbers of the shifts that run. -/
def atN (xs : List (Int × Int × Int)) (m : Int) : Nat → List Int
  | 0 => []
  | k + 1 => if runsB (xs.getD k (0, 0, 0)) m then atN xs m k ++ [(k : Int)] else atN xs m k
/-- What the function hands on. -/
def seqAt : AV → Option (Bool × List Int)
  | .fn g (.cons a (.cons b .un)) => cond (Nat.beq g 96) (ob (immOf (.sl shT) a) fun xs => ob (immOf (.int .i64) b) fun m => some (Nat.ble xs.length 1000, atN xs m xs.length)) none
  | _ => none
def rd23 : St → Option (Bool × St) := rdFold 27 10 (.int .i64) seqAt (fun n _ => IntKind.i64.wrap (n + 1))
def rd97 : St → Option (Bool × St) := rdAppend 6 2 (.int .i64) seqAt (fun x => x)
/-- Before, by when they begin; then by their numbers. -/
def le68 (a b : (Int × (Int × Int)) × Int) : Bool := decide (a.1.1 < b.1.1) || (decide (a.1.1 = b.1.1) && decide (a.2 ≤ b.2))
/-- The same by when they end. -/
def le70 (a b : (Int × (Int × Int)) × Int) : Bool := decide (a.1.2.1 < b.1.2.1) || (decide (a.1.2.1 = b.1.2.1) && decide (a.2 ≤ b.2))
end Go.Proofs.Ytbojnkcolamneaa
