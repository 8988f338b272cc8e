/- The types and the small functions that are run in place. -/
import Derived.Test.YtbojnkcolamneaaChecked
import Derived.Test.YtbojnkcolamneaaPh
import Derived.KernelRfl
set_option maxRecDepth 100000
namespace Go.Proofs.Ytbojnkcolamneaa
open Go Go.Pv
noncomputable def tl : List (Nat × TE) := [
  (3, ⟨true, .int .i64, .plain, 1, 8, false, .dat (.int .i64)⟩),
  (4, ⟨true, .bool, .plain, 1, 1, false, .dat (.bool)⟩),
  (22, ⟨true, .sl (.pr (.int .i64) (.pr (.int .i64) (.int .i64))), .slice 49, 1, 24, false, .nil⟩),
  (23, ⟨true, .sl (.int .i64), .slice 3, 1, 24, false, .nil⟩),
  (26, ⟨true, .int .i64, .plain, 1, 8, false, .dat (.int .i64)⟩),
  (49, ⟨true, .pr (.int .i64) (.pr (.int .i64) (.int .i64)), .struct [(0, 3), (1, 3), (2, 3)], 3, 24, true, .mk (.dat (.int .i64)) (.mk (.dat (.int .i64)) (.dat (.int .i64)))⟩),
  (50, ⟨true, .sl (.pr (.int .i64) (.int .i64)), .slice 91, 1, 24, false, .nil⟩),
  (61, ⟨true, .sl (.sl (.int .i64)), .slice 23, 1, 24, false, .nil⟩),
  (65, ⟨false, .un, .other, 1, 8, false, .nilfn⟩),
  (69, ⟨true, .sl (.pr (.pr (.int .i64) (.pr (.int .i64) (.int .i64))) (.int .i64)), .slice 74, 1, 24, false, .nil⟩),
  (71, ⟨false, .un, .other, 1, 8, false, .nilfn⟩),
  (74, ⟨true, .pr (.pr (.int .i64) (.pr (.int .i64) (.int .i64))) (.int .i64), .struct [(0, 49), (3, 3)], 4, 32, true, .mk (.mk (.dat (.int .i64)) (.mk (.dat (.int .i64)) (.dat (.int .i64)))) (.dat (.int .i64))⟩),
  (76, ⟨false, .un, .other, 1, 8, false, .nilfn⟩),
  (91, ⟨true, .pr (.int .i64) (.int .i64), .struct [(0, 3), (1, 3)], 2, 16, true, .mk (.dat (.int .i64)) (.dat (.int .i64))⟩),
  (95, ⟨true, .int .u64, .plain, 1, 8, false, .dat (.int .u64)⟩)]
noncomputable def ti : Nat → TI := tiAt tl
theorem tl_ok : tlOk Try.prog tl tl = true := by kernel_rfl
theorem tiOk : ∀ t, TiOk Try.prog ti t := tiOk_of tl_ok
theorem order : Try.prog.follows .mixedOrders = true := by kernel_rfl
theorem bodOk_mk {g : Nat} {fn : Func} (hf : Try.prog.funcs[g]? = some fn) (hn : (fn.name == "runtime.NumGoroutine") = false) (hd : dstIn (fun t => Nat.blt t fn.ntmps) (codeOf fn) = true) : BodOk Try.prog g fn :=
  ⟨hf, hn, fun c hc => by have : codeOf fn = c := by simp [codeOf, hc]
                          rw [← this]; exact hd⟩
theorem bod57 : BodOk Try.prog 57 Try.f57 := bodOk_mk Try.func57 (by kernel_rfl) (by kernel_rfl)
theorem bod58 : BodOk Try.prog 58 Try.f58 := bodOk_mk Try.func58 (by kernel_rfl) (by kernel_rfl)
theorem bod59 : BodOk Try.prog 59 Try.f59 := bodOk_mk Try.func59 (by kernel_rfl) (by kernel_rfl)
theorem bod68 : BodOk Try.prog 68 Try.f68 := bodOk_mk Try.func68 (by kernel_rfl) (by kernel_rfl)
theorem bod69 : BodOk Try.prog 69 Try.f69 := bodOk_mk Try.func69 (by kernel_rfl) (by kernel_rfl)
theorem bod70 : BodOk Try.prog 70 Try.f70 := bodOk_mk Try.func70 (by kernel_rfl) (by kernel_rfl)
theorem bod79 : BodOk Try.prog 79 Try.f79 := bodOk_mk Try.func79 (by kernel_rfl) (by kernel_rfl)
theorem bod81 : BodOk Try.prog 81 Try.f81 := bodOk_mk Try.func81 (by kernel_rfl) (by kernel_rfl)
theorem bod87 : BodOk Try.prog 87 Try.f87 := bodOk_mk Try.func87 (by kernel_rfl) (by kernel_rfl)
theorem bod96 : BodOk Try.prog 96 Try.f96 := bodOk_mk Try.func96 (by kernel_rfl) (by kernel_rfl)
theorem bod97 : BodOk Try.prog 97 Try.f97 := bodOk_mk Try.func97 (by kernel_rfl) (by kernel_rfl)
theorem bod110 : BodOk Try.prog 110 Try.f110 := bodOk_mk Try.func110 (by kernel_rfl) (by kernel_rfl)
end Go.Proofs.Ytbojnkcolamneaa
