/- What all the tied cards ask of the program. -/
import Derived.Test.YtbpjodikknbcoaaGreatDoorRows
import Derived.SevenTiedAt
import Derived.KernelRfl
set_option maxRecDepth 100000
namespace Go.Proofs.YtbpjodikknbcoaaGreatDoor
open Go
set_option maxHeartbeats 40000000
theorem tied_main : Tryz.pinned.checked.prog.mainIs = some (true, "3715c025972e12dc452a229855ecac83c1980c2c474f2d43d3e4154c200332c2".toList) := by kernel_rfl
theorem tied_want3 : Tryz.prog.wantsStandIn 3 = false := by kernel_rfl
theorem tied_want9 : Tryz.prog.wantsStandIn 9 = false := by kernel_rfl
theorem tied_want26 : Tryz.prog.wantsStandIn 26 = false := by kernel_rfl
theorem tied_want28 : Tryz.prog.wantsStandIn 28 = false := by kernel_rfl
theorem tied_want45 : Tryz.prog.wantsStandIn 45 = false := by kernel_rfl
theorem tied_looks : true = Tryz.pinned.checked.prog.looks [] := by kernel_rfl
end Go.Proofs.YtbpjodikknbcoaaGreatDoor
