/- The types and the small functions that are run in place. -/
import Derived.Test.YthdmngalhppkcaaChecked
import Derived.Test.YthdmngalhppkcaaPh
import Derived.KernelRfl
set_option maxRecDepth 100000
namespace Go.Proofs.Ythdmngalhppkcaa
open Go Go.Pv
noncomputable def tl : List (Nat × TE) := [
  (3, ⟨true, .int .i64, .plain, 1, 8, false, .dat (.int .i64)⟩),
  (4, ⟨true, .bool, .plain, 1, 1, false, .dat (.bool)⟩),
  (22, ⟨true, .sl (.arr 2 (.int .i64)), .slice 49, 1, 24, false, .nil⟩),
  (23, ⟨true, .sl (.int .i64), .slice 3, 1, 24, false, .nil⟩),
  (25, ⟨true, .pr (.sl (.arr 2 (.int .i64))) (.sl (.int .i64)), .struct [(0, 22), (1, 23)], 2, 48, true, .mk (.nil) (.nil)⟩),
  (28, ⟨true, .int .i64, .plain, 1, 8, false, .dat (.int .i64)⟩),
  (35, ⟨true, .int .u64, .plain, 1, 8, false, .dat (.int .u64)⟩),
  (49, ⟨true, .arr 2 (.int .i64), .array 2 3, 2, 16, true, .dat (.arr 2 (.int .i64))⟩),
  (61, ⟨true, .sl (.sl (.int .i64)), .slice 23, 1, 24, false, .nil⟩),
  (69, ⟨false, .un, .other, 1, 8, false, .nilfn⟩),
  (75, ⟨false, .un, .other, 1, 8, false, .nilfn⟩),
  (80, ⟨true, .pr (.pr (.sl (.arr 2 (.int .i64))) (.sl (.int .i64))) (.int .i64), .struct [(0, 25), (2, 3)], 3, 56, true, .mk (.mk (.nil) (.nil)) (.dat (.int .i64))⟩),
  (82, ⟨true, .pr (.pr (.pr (.sl (.arr 2 (.int .i64))) (.sl (.int .i64))) (.int .i64)) (.pr (.pr (.sl (.arr 2 (.int .i64))) (.sl (.int .i64))) (.int .i64)), .struct [(0, 80), (3, 80)], 6, 112, true, .mk (.mk (.mk (.nil) (.nil)) (.dat (.int .i64))) (.mk (.mk (.nil) (.nil)) (.dat (.int .i64)))⟩),
  (85, ⟨true, .pr (.int .u64) (.sl (.int .i64)), .struct [(0, 35), (1, 23)], 2, 32, true, .mk (.dat (.int .u64)) (.nil)⟩),
  (86, ⟨true, .sl (.pr (.int .u64) (.sl (.int .i64))), .slice 85, 1, 24, false, .nil⟩),
  (87, ⟨false, .un, .map 35 4, 1, 8, false, .junk⟩),
  (90, ⟨false, .un, .map 3 23, 1, 8, false, .junk⟩),
  (93, ⟨true, .sl (.bool), .slice 4, 1, 24, false, .nil⟩),
  (94, ⟨false, .un, .slice 97, 1, 24, false, .nil⟩),
  (97, ⟨false, .un, .struct [(0, 75)], 1, 8, true, .mk (.nilfn) .un⟩),
  (100, ⟨true, .pr (.pr (.pr (.pr (.sl (.arr 2 (.int .i64))) (.sl (.int .i64))) (.int .i64)) (.pr (.pr (.sl (.arr 2 (.int .i64))) (.sl (.int .i64))) (.int .i64))) (.sl (.int .i64)), .struct [(0, 82), (6, 23)], 7, 136, true, .mk (.mk (.mk (.mk (.nil) (.nil)) (.dat (.int .i64))) (.mk (.mk (.nil) (.nil)) (.dat (.int .i64)))) (.nil)⟩),
  (101, ⟨true, .sl (.pr (.pr (.pr (.pr (.sl (.arr 2 (.int .i64))) (.sl (.int .i64))) (.int .i64)) (.pr (.pr (.sl (.arr 2 (.int .i64))) (.sl (.int .i64))) (.int .i64))) (.sl (.int .i64))), .slice 100, 1, 24, false, .nil⟩),
  (103, ⟨false, .un, .map 49 4, 1, 8, false, .junk⟩)]
noncomputable def ti : Nat → TI := tiAt tl
theorem tl_ok : tlOk Try.prog tl tl = true := by kernel_rfl
theorem tiOk : ∀ t, TiOk Try.prog ti t := tiOk_of tl_ok
theorem order : Try.prog.follows .mixedOrders = true := by kernel_rfl
theorem bodOk_mk {g : Nat} {fn : Func} (hf : Try.prog.funcs[g]? = some fn) (hn : (fn.name == "runtime.NumGoroutine") = false) (hd : dstIn (fun t => Nat.blt t fn.ntmps) (codeOf fn) = true) : BodOk Try.prog g fn :=
  ⟨hf, hn, fun c hc => by have : codeOf fn = c := by simp [codeOf, hc]
                          rw [← this]; exact hd⟩
theorem bod58 : BodOk Try.prog 58 Try.f58 := bodOk_mk Try.func58 (by kernel_rfl) (by kernel_rfl)
theorem bod67 : BodOk Try.prog 67 Try.f67 := bodOk_mk Try.func67 (by kernel_rfl) (by kernel_rfl)
theorem bod68 : BodOk Try.prog 68 Try.f68 := bodOk_mk Try.func68 (by kernel_rfl) (by kernel_rfl)
theorem bod74 : BodOk Try.prog 74 Try.f74 := bodOk_mk Try.func74 (by kernel_rfl) (by kernel_rfl)
theorem bod85 : BodOk Try.prog 85 Try.f85 := bodOk_mk Try.func85 (by kernel_rfl) (by kernel_rfl)
theorem bod86 : BodOk Try.prog 86 Try.f86 := bodOk_mk Try.func86 (by kernel_rfl) (by kernel_rfl)
theorem bod89 : BodOk Try.prog 89 Try.f89 := bodOk_mk Try.func89 (by kernel_rfl) (by kernel_rfl)
theorem bod90 : BodOk Try.prog 90 Try.f90 := bodOk_mk Try.func90 (by kernel_rfl) (by kernel_rfl)
theorem bod91 : BodOk Try.prog 91 Try.f91 := bodOk_mk Try.func91 (by kernel_rfl) (by kernel_rfl)
theorem bod94 : BodOk Try.prog 94 Try.f94 := bodOk_mk Try.func94 (by kernel_rfl) (by kernel_rfl)
theorem bod95 : BodOk Try.prog 95 Try.f95 := bodOk_mk Try.func95 (by kernel_rfl) (by kernel_rfl)
theorem bod96 : BodOk Try.prog 96 Try.f96 := bodOk_mk Try.func96 (by kernel_rfl) (by kernel_rfl)
theorem bod97 : BodOk Try.prog 97 Try.f97 := bodOk_mk Try.func97 (by kernel_rfl) (by kernel_rfl)
theorem bod98 : BodOk Try.prog 98 Try.f98 := bodOk_mk Try.func98 (by kernel_rfl) (by kernel_rfl)
end Go.Proofs.Ythdmngalhppkcaa
