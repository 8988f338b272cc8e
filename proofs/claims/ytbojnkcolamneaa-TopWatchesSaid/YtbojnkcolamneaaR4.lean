/- The library's Delete at shifts. -/
import Derived.Test.YtbojnkcolamneaaR3
import Derived.Test.YtbojnkcolamneaaR4L
set_option linter.unusedVariables false
namespace Go.Proofs.Ytbojnkcolamneaa
open Go Go.Pv Go.RowKit Go.Shelf
attribute [local go_sem] Oper.semAt_some

set_option maxRecDepth 100000 in
set_option maxHeartbeats 2000000 in
theorem delete_nil_in (F : Fence) (n : Nat) (h90 : F.fn 90) (hro : F.round = none) (w : World) : CallsIn F n Try.prog 90 #[.slice none 0 0, .int .i64 0, .int .i64 0] w fun e w' => e = .returned (.slice none 0 0) ∧ w' = w := by
  refine callsIn_of_wp Try.func90 rfl h90 ?_ hro
  simp only [Try.ntmps90, List.size_toArray, List.length_cons, List.length_nil, Nat.reduceAdd, Nat.reduceSub, Array.replicate_succ, Array.replicate_zero, List.push_toArray, List.append_toArray, List.nil_append, List.cons_append]
  gi_wp2
  go_ret
  exact ⟨rfl, rfl⟩
set_option maxRecDepth 100000 in
theorem delete_ent90 : EntOk Try.prog 90 ⟨[(.own shT, false), (.dat (.int .i64), false), (.dat (.int .i64), false)], .own shT, List shT.den, fun x => if 0 ≤ (x.2.1 : Int) ∧ (x.2.1 : Int) ≤ (x.2.2.1 : Int) ∧ (x.2.2.1 : Int) ≤ (x.1.length : Int) then some (x.1.take (x.2.1 : Int).toNat ++ x.1.drop (x.2.2.1 : Int).toNat) else none, fun _ y => (y, ()), true⟩ :=
  Go.Pv.delete_ent delS ⟨_, _, Try.func90, rfl, by kernel_rfl⟩ (e := shT) rfl (by decide) (.agg #[.int .i64 0, .int .i64 0, .int .i64 0]) (.int .i64 0) rfl rfl rfl Try.zeroValue49 Try.sizeOf49 (by kernel_rfl) (fun w => (callsIn_wide (n := 2)).1 (delete_nil_in Fence.wide 2 trivial rfl w))
end Go.Proofs.Ytbojnkcolamneaa
