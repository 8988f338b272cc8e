/- The library's functions that this layer calls. -/
import Derived.Test.YtdgibokmaannjaaR2L
set_option linter.unusedVariables false
set_option linter.unusedSimpArgs false
namespace Go.Proofs.Ytdgibokmaannjaa
open Go Go.Pv Go.RowKit Go.Shelf
attribute [local go_sem] Oper.semAt_some

set_option maxRecDepth 100000 in
theorem sort_ent : EntOk Try.prog 81 ⟨[(.own (.int .i64), true)], .nix, List Int, fun x => if x.1.length ≤ 1000 then some (isort leI x.1) else none, fun _ y => ((), (y, ())), false⟩ :=
  sortInt_ent sortI ⟨_, _, Try.func81, rfl, by kernel_rfl⟩

set_option maxRecDepth 100000 in
set_option maxHeartbeats 2000000 in
theorem compact_nil_in (F : Fence) (n : Nat) (h89 : F.fn 89) (hro : F.round = none) (w : World) : CallsIn F n Try.prog 89 #[.slice none 0 0] w fun e w' => e = .returned (.slice none 0 0) ∧ w' = w := by
  refine callsIn_of_wp Try.func89 rfl h89 ?_ hro
  simp only [Try.ntmps89, List.size_toArray, List.length_cons, List.length_nil, Nat.reduceAdd, Nat.reduceSub, Array.replicate_succ, Array.replicate_zero, List.push_toArray, List.append_toArray, List.nil_append, List.cons_append]
  gi_wp2
  go_ret
  exact ⟨rfl, rfl⟩
set_option maxRecDepth 100000 in
theorem compact_ent89 : EntOk Try.prog 89 ⟨[(.own (.int .i64), false)], .own (.int .i64), List Int, fun x => if x.1.length ≤ 1000 then some (compactI x.1) else none, fun _ y => (y, ()), true⟩ :=
  compact_ent compactI_lay ⟨_, _, Try.func89, rfl, by kernel_rfl⟩ Try.zeroValue3 (fun w => (callsIn_wide (n := 2)).1 (compact_nil_in Fence.wide 2 trivial rfl w))

set_option maxRecDepth 100000 in
set_option maxHeartbeats 2000000 in
theorem delete_nil_in (F : Fence) (n : Nat) (h141 : F.fn 141) (hro : F.round = none) (w : World) : CallsIn F n Try.prog 141 #[.slice none 0 0, .int .i64 0, .int .i64 0] w fun e w' => e = .returned (.slice none 0 0) ∧ w' = w := by
  refine callsIn_of_wp Try.func141 rfl h141 ?_ hro
  simp only [Try.ntmps141, List.size_toArray, List.length_cons, List.length_nil, Nat.reduceAdd, Nat.reduceSub, Array.replicate_succ, Array.replicate_zero, List.push_toArray, List.append_toArray, List.nil_append, List.cons_append]
  gi_wp2
  go_ret
  exact ⟨rfl, rfl⟩
set_option maxRecDepth 100000 in
theorem delete_ent141 : EntOk Try.prog 141 ⟨[(.own (.int .i64), false), (.dat (.int .i64), false), (.dat (.int .i64), false)], .own (.int .i64), List Int, fun x => if 0 ≤ (x.2.1 : Int) ∧ (x.2.1 : Int) ≤ (x.2.2.1 : Int) ∧ (x.2.2.1 : Int) ≤ (x.1.length : Int) then some (x.1.take (x.2.1 : Int).toNat ++ x.1.drop (x.2.2.1 : Int).toNat) else none, fun _ y => (y, ()), true⟩ :=
  haveI : Inhabited (Ty.int .i64).den := ⟨(0 : Int)⟩
  Go.Pv.delete_ent delL ⟨_, _, Try.func141, rfl, by kernel_rfl⟩ (e := .int .i64) rfl (by decide) (.int .i64 0) (.int .i64 0) rfl rfl rfl Try.zeroValue3 Try.sizeOf3 (by kernel_rfl) (fun w => (callsIn_wide (n := 2)).1 (delete_nil_in Fence.wide 2 trivial rfl w))
set_option maxRecDepth 100000 in
theorem insert_ent86 : EntOk Try.prog 86 ⟨[(.own (.int .i64), false), (.dat (.int .i64), false), (.own (.int .i64), false)], .own (.int .i64), List Int, fun x => if 0 ≤ (x.2.1 : Int) ∧ (x.2.1 : Int) ≤ (x.1.length : Int) ∧ x.1.length ≤ 1000 ∧ x.2.2.1.length = 1 then some (x.1.take (x.2.1 : Int).toNat ++ x.2.2.1 ++ x.1.drop (x.2.1 : Int).toNat) else none, fun _ y => (y, ()), true⟩ :=
  insert_ent insL ⟨_, _, Try.func86, rfl, by kernel_rfl⟩
end Go.Proofs.Ytdgibokmaannjaa
