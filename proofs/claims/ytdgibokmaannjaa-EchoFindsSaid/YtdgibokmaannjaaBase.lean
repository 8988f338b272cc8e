/- The types and the small functions that are run in place. -/
import Derived.Test.YtdgibokmaannjaaChecked
import Derived.Test.YtdgibokmaannjaaPi
import Derived.KernelRfl
set_option maxRecDepth 100000
namespace Go.Proofs.Ytdgibokmaannjaa
open Go Go.Pv
noncomputable def tl : List (Nat × TE) := [
  (3, ⟨true, .int .i64, .plain, 1, 8, false, .dat (.int .i64)⟩),
  (4, ⟨true, .bool, .plain, 1, 1, false, .dat (.bool)⟩),
  (22, ⟨true, .sl (.int .i64), .slice 3, 1, 24, false, .nil⟩),
  (25, ⟨true, .int .i64, .plain, 1, 8, false, .dat (.int .i64)⟩),
  (28, ⟨false, .un, .other, 1, 8, false, .nilfn⟩),
  (32, ⟨false, .un, .other, 1, 8, false, .nilfn⟩),
  (38, ⟨true, .sl (.sl (.int .i64)), .slice 22, 1, 24, false, .nil⟩),
  (54, ⟨false, .un, .other, 1, 8, false, .nilfn⟩),
  (60, ⟨false, .un, .other, 1, 8, false, .nilfn⟩),
  (65, ⟨false, .un, .other, 1, 8, false, .nilfn⟩),
  (70, ⟨true, .int .u64, .plain, 1, 8, false, .dat (.int .u64)⟩),
  (71, ⟨false, .un, .other, 1, 8, false, .nilfn⟩)]
noncomputable def ti : Nat → TI := tiAt tl
theorem tl_ok : tlOk Try.prog tl tl = true := by kernel_rfl
theorem tiOk : ∀ t, TiOk Try.prog ti t := tiOk_of tl_ok
theorem order : Try.prog.follows .mixedOrders = true := by kernel_rfl
theorem bodOk_mk {g : Nat} {fn : Func} (hf : Try.prog.funcs[g]? = some fn) (hn : (fn.name == "runtime.NumGoroutine") = false) (hd : dstIn (fun t => Nat.blt t fn.ntmps) (codeOf fn) = true) : BodOk Try.prog g fn :=
  ⟨hf, hn, fun c hc => by have : codeOf fn = c := by simp [codeOf, hc]
                          rw [← this]; exact hd⟩
theorem bod22 : BodOk Try.prog 22 Try.f22 := bodOk_mk Try.func22 (by kernel_rfl) (by kernel_rfl)
theorem bod67 : BodOk Try.prog 67 Try.f67 := bodOk_mk Try.func67 (by kernel_rfl) (by kernel_rfl)
theorem bod69 : BodOk Try.prog 69 Try.f69 := bodOk_mk Try.func69 (by kernel_rfl) (by kernel_rfl)
theorem bod75 : BodOk Try.prog 75 Try.f75 := bodOk_mk Try.func75 (by kernel_rfl) (by kernel_rfl)
theorem bod79 : BodOk Try.prog 79 Try.f79 := bodOk_mk Try.func79 (by kernel_rfl) (by kernel_rfl)
theorem bod92 : BodOk Try.prog 92 Try.f92 := bodOk_mk Try.func92 (by kernel_rfl) (by kernel_rfl)
theorem bod93 : BodOk Try.prog 93 Try.f93 := bodOk_mk Try.func93 (by kernel_rfl) (by kernel_rfl)
theorem bod94 : BodOk Try.prog 94 Try.f94 := bodOk_mk Try.func94 (by kernel_rfl) (by kernel_rfl)
theorem bod99 : BodOk Try.prog 99 Try.f99 := bodOk_mk Try.func99 (by kernel_rfl) (by kernel_rfl)
theorem bod104 : BodOk Try.prog 104 Try.f104 := bodOk_mk Try.func104 (by kernel_rfl) (by kernel_rfl)
theorem bod113 : BodOk Try.prog 113 Try.f113 := bodOk_mk Try.func113 (by kernel_rfl) (by kernel_rfl)
theorem bod124 : BodOk Try.prog 124 Try.f124 := bodOk_mk Try.func124 (by kernel_rfl) (by kernel_rfl)
end Go.Proofs.Ytdgibokmaannjaa
