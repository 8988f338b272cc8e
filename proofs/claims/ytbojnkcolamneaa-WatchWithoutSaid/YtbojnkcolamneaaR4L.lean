/- The library's contracts, laid at this program (Delete). -/
import Derived.Test.YtbojnkcolamneaaR1
namespace Go.Proofs.Ytbojnkcolamneaa
open Go Go.Shelf
def delS_ren : Go.Shelf.Ren := ⟨fun | 45 => 90 | n => n, fun | 22 => 22 | 23 => 49 | 3 => 3 | 4 => 4 | 0 => 0 | n => n, fun | n => n⟩
theorem delS : Go.Proofs.SlLaysE0.n45 Try.prog delS_ren := {
  mixed := by kernel_rfl
  f45 := ⟨Try.f90.name, by decide, Try.func90.trans (congrArg some (by kernel_rfl))⟩
  t0 := Try.underlying0
  a0 := Try.isAgg0
  z0 := Try.sizeOf0
  v0 := Try.zeroValue0
  t3 := Try.underlying3
  a3 := Try.isAgg3
  z3 := Try.sizeOf3
  v3 := Try.zeroValue3
  t4 := Try.underlying4
  a4 := Try.isAgg4
  z4 := Try.sizeOf4
  v4 := Try.zeroValue4
  t22 := Try.underlying22
  a22 := Try.isAgg22
  z22 := Try.sizeOf22
  v22 := Try.zeroValue22 }
end Go.Proofs.Ytbojnkcolamneaa
