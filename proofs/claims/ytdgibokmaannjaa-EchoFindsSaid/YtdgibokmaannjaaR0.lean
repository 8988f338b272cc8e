/- The loop over a function of this layer: what it computes. -/
import Derived.Test.YtdgibokmaannjaaBase
set_option linter.unusedVariables false
set_option linter.unusedSimpArgs false
namespace Go.Proofs.Ytdgibokmaannjaa
open Go Go.Pv
/-- What Backward hands on: places and numbers, from the last one on. -/
def backL (xs : List Int) : Nat → List (Int × Int)
  | 0 => []
  | k + 1 => ((k : Int), xs.getD k 0) :: backL xs k
def seqBack : AV → Option (Bool × List (Int × Int))
  | .fn g (.cons a .un) => cond (Nat.beq g 113) (ob (immOf (.sl (.int .i64)) a) fun xs => some (Nat.ble xs.length 1000, backL xs xs.length)) none
  | _ => none
def mirV (c : List Int) (x : Int) : Int := IntKind.i64.wrap (IntKind.i64.wrap (c.getD 0 0 + c.getD (c.length - 1) 0) - x)
def rd77 (st : St) : Option (Bool × St) :=
  match st.bl, lk st.fr 1, lk st.fr 3, lk st.fr 7 with
  | [(a, .dead), (b, y), (k, .box .nil), (i, .box (.dat u x))], some (.ptr i' o'), some (.ptr k' o), some v =>
    cond (and3 (and3 (Nat.beq a 2) (Nat.beq b 2) (Nat.beq k 1)) (and3 (Nat.beq i 0) (Nat.beq i' 0) (Nat.beq o' 0)) (and3 (Nat.beq k' 1) (Nat.beq o 0) (Nat.beq st.nb 3)))
      (match Ty.same u (.sl (.int .i64)) with
       | some h => ob (seqBack v) fun p => some (cond p.1 (decide (0 < (Ty.as h.out x : List Int).length ∧ (Ty.as h.out x : List Int).length ≤ 1000)) false, ⟨st.fr, (1, .box (.own 3)) :: (3, .row (.int .i64) (p.2.map fun q => mirV (Ty.as h.out x) q.2)) :: st.bl, 4⟩)
       | none => none) none
  | _, _, _, _ => none
/-- Neighbours that are equal are one. -/
def cmpGoL (p : List Int) : List (List Int) → List (List Int)
  | [] => []
  | y :: r => if y = p then cmpGoL p r else y :: cmpGoL y r
def compactL : List (List Int) → List (List Int)
  | [] => []
  | x :: r => x :: cmpGoL x r
end Go.Proofs.Ytdgibokmaannjaa
