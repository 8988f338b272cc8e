/- The types and the small functions that are run in place. -/
import Derived.Test.YtbpjodikknbcoaaGreatDoorChecked
import Derived.Test.YtbpjodikknbcoaaGreatDoorPg
import Derived.KernelRfl
set_option maxRecDepth 100000
namespace Go.Proofs.YtbpjodikknbcoaaGreatDoor
open Go Go.Pv
noncomputable def tl : List (Nat × TE) := [
  (3, ⟨true, .int .i64, .plain, 1, 8, false, .dat (.int .i64)⟩),
  (4, ⟨true, .bool, .plain, 1, 1, false, .dat (.bool)⟩),
  (5, ⟨true, .int .u8, .plain, 1, 1, false, .dat (.int .u8)⟩),
  (9, ⟨true, .str, .plain, 1, 16, false, .dat (.str)⟩),
  (22, ⟨true, .sl (.int .i64), .slice 3, 1, 24, false, .nil⟩),
  (23, ⟨true, .sl (.arr 2 (.int .i64)), .slice 130, 1, 24, false, .nil⟩),
  (25, ⟨true, .pr (.sl (.arr 2 (.int .i64))) (.sl (.int .i64)), .struct [(0, 23), (1, 22)], 2, 48, true, .mk (.nil) (.nil)⟩),
  (26, ⟨true, .sl (.str), .slice 9, 1, 24, false, .nil⟩),
  (28, ⟨true, .pr (.sl (.int .i64)) (.pr (.sl (.int .i64)) (.pr (.pr (.sl (.arr 2 (.int .i64))) (.sl (.int .i64))) (.pr (.sl (.str)) (.int .i64)))), .struct [(0, 22), (1, 22), (2, 25), (4, 26), (5, 3)], 6, 128, true, .mk (.nil) (.mk (.nil) (.mk (.mk (.nil) (.nil)) (.mk (.nil) (.dat (.int .i64)))))⟩),
  (31, ⟨false, .un, .ptr 109, 1, 8, false, .junk⟩),
  (35, ⟨true, .int .i64, .plain, 1, 8, false, .dat (.int .i64)⟩),
  (38, ⟨true, .int .u64, .plain, 1, 8, false, .dat (.int .u64)⟩),
  (45, ⟨true, .pr (.sl (.int .i64)) (.pr (.sl (.int .i64)) (.pr (.sl (.arr 2 (.int .i64))) (.sl (.int .i64)))), .struct [(0, 22), (1, 22), (2, 25)], 4, 96, true, .mk (.nil) (.mk (.nil) (.mk (.nil) (.nil)))⟩),
  (49, ⟨false, .un, .ptr 80, 1, 8, false, .junk⟩),
  (66, ⟨true, .sl (.int .i64), .slice 35, 1, 24, false, .nil⟩),
  (80, ⟨true, .pr (.sl (.int .i64)) (.pr (.pr (.sl (.arr 2 (.int .i64))) (.sl (.int .i64))) (.pr (.int .i64) (.pr (.int .i64) (.pr (.int .i64) (.pr (.int .i64) (.pr (.int .i64) (.pr (.int .i64) (.pr (.int .i64) (.pr (.int .i64) (.pr (.int .i64) (.pr (.int .i64) (.pr (.bool) (.sl (.str)))))))))))))), .struct [(0, 22), (1, 25), (3, 3), (4, 3), (5, 3), (6, 3), (7, 3), (8, 3), (9, 3), (10, 3), (11, 3), (12, 3), (13, 4), (14, 26)], 15, 184, true, .mk (.nil) (.mk (.mk (.nil) (.nil)) (.mk (.dat (.int .i64)) (.mk (.dat (.int .i64)) (.mk (.dat (.int .i64)) (.mk (.dat (.int .i64)) (.mk (.dat (.int .i64)) (.mk (.dat (.int .i64)) (.mk (.dat (.int .i64)) (.mk (.dat (.int .i64)) (.mk (.dat (.int .i64)) (.mk (.dat (.int .i64)) (.mk (.dat (.bool)) (.nil)))))))))))))⟩),
  (98, ⟨true, .pr (.int .i64) (.pr (.bool) (.pr (.int .i64) (.pr (.int .i64) (.pr (.int .i64) (.pr (.int .i64) (.pr (.int .i64) (.pr (.int .i64) (.pr (.int .i64) (.pr (.int .i64) (.pr (.int .i64) (.pr (.int .i64) (.sl (.str))))))))))))), .struct [(0, 3), (1, 4), (2, 3), (3, 3), (4, 3), (5, 3), (6, 3), (7, 3), (8, 3), (9, 3), (10, 3), (11, 3), (12, 26)], 13, 120, true, .mk (.dat (.int .i64)) (.mk (.dat (.bool)) (.mk (.dat (.int .i64)) (.mk (.dat (.int .i64)) (.mk (.dat (.int .i64)) (.mk (.dat (.int .i64)) (.mk (.dat (.int .i64)) (.mk (.dat (.int .i64)) (.mk (.dat (.int .i64)) (.mk (.dat (.int .i64)) (.mk (.dat (.int .i64)) (.mk (.dat (.int .i64)) (.nil))))))))))))⟩),
  (107, ⟨false, .un, .other, 2, 8, true, .mk (.dat (.int .i32)) (.dat (.int .u32))⟩),
  (109, ⟨false, .un, .struct [(0, 107), (2, 22), (3, 22), (4, 25), (6, 98)], 19, 224, true, .mk (.mk (.dat (.int .i32)) (.dat (.int .u32))) (.mk (.nil) (.mk (.nil) (.mk (.mk (.nil) (.nil)) (.mk (.dat (.int .i64)) (.mk (.dat (.bool)) (.mk (.dat (.int .i64)) (.mk (.dat (.int .i64)) (.mk (.dat (.int .i64)) (.mk (.dat (.int .i64)) (.mk (.dat (.int .i64)) (.mk (.dat (.int .i64)) (.mk (.dat (.int .i64)) (.mk (.dat (.int .i64)) (.mk (.dat (.int .i64)) (.mk (.dat (.int .i64)) (.nil))))))))))))))))⟩),
  (112, ⟨false, .un, .iface, 1, 16, false, .junk⟩),
  (116, ⟨true, .pr (.sl (.int .i64)) (.sl (.int .i64)), .struct [(0, 22), (1, 22)], 2, 48, true, .mk (.nil) (.nil)⟩),
  (118, ⟨false, .un, .other, 1, 8, false, .nilfn⟩),
  (119, ⟨true, .sl (.int .u8), .slice 5, 1, 24, false, .nil⟩),
  (123, ⟨true, .pr (.str) (.int .i64), .struct [(0, 9), (1, 3)], 2, 24, true, .mk (.dat (.str)) (.dat (.int .i64))⟩),
  (130, ⟨true, .arr 2 (.int .i64), .array 2 3, 2, 16, true, .dat (.arr 2 (.int .i64))⟩),
  (135, ⟨false, .un, .ptr 137, 1, 8, false, .junk⟩),
  (137, ⟨false, .un, .struct [(0, 135), (1, 119)], 2, 32, true, .junk⟩),
  (142, ⟨true, .pr (.int .i64) .un, .struct [(0, 35)], 1, 8, true, .mk (.dat (.int .i64)) .un⟩),
  (145, ⟨true, .int .i64, .plain, 1, 8, false, .dat (.int .i64)⟩),
  (147, ⟨true, .pr (.int .i64) (.int .i64), .struct [(0, 145), (1, 3)], 2, 16, true, .mk (.dat (.int .i64)) (.dat (.int .i64))⟩),
  (151, ⟨false, .un, .ptr 98, 1, 8, false, .junk⟩),
  (181, ⟨true, .pr (.int .i64) (.bool), .struct [(0, 145), (1, 4)], 2, 16, true, .mk (.dat (.int .i64)) (.dat (.bool))⟩),
  (183, ⟨false, .un, .map 9 181, 1, 8, false, .junk⟩)]
noncomputable def ti : Nat → TI := tiAt tl
theorem tl_ok : tlOk Tryz.prog tl tl = true := by kernel_rfl
theorem tiOk : ∀ t, TiOk Tryz.prog ti t := tiOk_of tl_ok
theorem order : Tryz.prog.follows .mixedOrders = true := by kernel_rfl
theorem bodOk_mk {g : Nat} {fn : Func} (hf : Tryz.prog.funcs[g]? = some fn) (hn : (fn.name == "runtime.NumGoroutine") = false) (hd : dstIn (fun t => Nat.blt t fn.ntmps) (codeOf fn) = true) : BodOk Tryz.prog g fn :=
  ⟨hf, hn, fun c hc => by have : codeOf fn = c := by simp [codeOf, hc]
                          rw [← this]; exact hd⟩
theorem bod28 : BodOk Tryz.prog 28 Tryz.f28 := bodOk_mk Tryz.func28 (by kernel_rfl) (by kernel_rfl)
theorem bod49 : BodOk Tryz.prog 49 Tryz.f49 := bodOk_mk Tryz.func49 (by kernel_rfl) (by kernel_rfl)
theorem bod69 : BodOk Tryz.prog 69 Tryz.f69 := bodOk_mk Tryz.func69 (by kernel_rfl) (by kernel_rfl)
theorem bod76 : BodOk Tryz.prog 76 Tryz.f76 := bodOk_mk Tryz.func76 (by kernel_rfl) (by kernel_rfl)
theorem bod107 : BodOk Tryz.prog 107 Tryz.f107 := bodOk_mk Tryz.func107 (by kernel_rfl) (by kernel_rfl)
theorem bod118 : BodOk Tryz.prog 118 Tryz.f118 := bodOk_mk Tryz.func118 (by kernel_rfl) (by kernel_rfl)
theorem bod119 : BodOk Tryz.prog 119 Tryz.f119 := bodOk_mk Tryz.func119 (by kernel_rfl) (by kernel_rfl)
theorem bod135 : BodOk Tryz.prog 135 Tryz.f135 := bodOk_mk Tryz.func135 (by kernel_rfl) (by kernel_rfl)
theorem bod139 : BodOk Tryz.prog 139 Tryz.f139 := bodOk_mk Tryz.func139 (by kernel_rfl) (by kernel_rfl)
end Go.Proofs.YtbpjodikknbcoaaGreatDoor
