/- The library's functions that this layer calls. -/
import Derived.Test.YtbojnkcolamneaaR2
import Derived.Test.YtbojnkcolamneaaR2L
set_option linter.unusedVariables false
namespace Go.Proofs.Ytbojnkcolamneaa
open Go Go.Pv Go.RowKit Go.Shelf
attribute [local go_sem] Oper.semAt_some

set_option maxRecDepth 100000 in
theorem sort_ent : EntOk Try.prog 63 ⟨[(.own (.int .i64), true)], .nix, List Int, fun x => if x.1.length ≤ 1000 then some (isort leI x.1) else none, fun _ y => ((), (y, ())), false⟩ :=
  sortInt_ent sortI ⟨_, _, Try.func63, rfl, by kernel_rfl⟩

set_option maxRecDepth 100000 in
set_option maxHeartbeats 2000000 in
theorem compact_nil_in (F : Fence) (n : Nat) (h64 : F.fn 64) (hro : F.round = none) (w : World) : CallsIn F n Try.prog 64 #[.slice none 0 0] w fun e w' => e = .returned (.slice none 0 0) ∧ w' = w := by
  refine callsIn_of_wp Try.func64 rfl h64 ?_ hro
  simp only [Try.ntmps64, List.size_toArray, List.length_cons, List.length_nil, Nat.reduceAdd, Nat.reduceSub, Array.replicate_succ, Array.replicate_zero, List.push_toArray, List.append_toArray, List.nil_append, List.cons_append]
  gi_wp2
  go_ret
  exact ⟨rfl, rfl⟩
set_option maxRecDepth 100000 in
theorem compact64_ent : EntOk Try.prog 64 ⟨[(.own (.int .i64), false)], .own (.int .i64), List Int, fun x => if x.1.length ≤ 1000 then some (compactI x.1) else none, fun _ y => (y, ()), true⟩ :=
  compact_ent compactL ⟨_, _, Try.func64, rfl, by kernel_rfl⟩ Try.zeroValue3 (fun w => (callsIn_wide (n := 2)).1 (compact_nil_in Fence.wide 2 trivial rfl w))

/-- Three ways two numbers stand. -/
def cmpI (a b : Int) : Int := if a < b then -1 else if b < a then 1 else 0
def cmp2 (a b c d : Int) : Int := if cmpI a b = 0 then cmpI c d else cmpI a b
theorem cmp2_neg (a b c d : Int) : decide (cmp2 a b c d < 0) = (decide (a < b) || (decide (a = b) && decide (c < d))) := by
  unfold cmp2 cmpI
  by_cases h1 : a < b
  · simp [h1]
  · by_cases h2 : b < a
    · have h3 : ¬ a = b := by omega
      simp [h1, h2, h3]
    · have h3 : a = b := by omega
      subst h3
      by_cases h4 : c < d
      · simp [h4]
      · by_cases h5 : d < c <;> simp [h4, h5]
theorem le2 (a b c d : Int) : (decide (a < b) || (decide (a = b) && decide (c ≤ d))) = !(decide (cmp2 b a d c < 0)) := by
  rw [cmp2_neg, Bool.eq_iff_iff]
  simp only [Bool.or_eq_true, Bool.and_eq_true, decide_eq_true_eq, Bool.not_eq_true', Bool.or_eq_false_iff, Bool.and_eq_false_iff, decide_eq_false_iff_not]
  omega
theorem le2_tr {a b c d e f : Int} (h1 : (decide (a < b) || (decide (a = b) && decide (c ≤ d))) = true) (h2 : (decide (b < e) || (decide (b = e) && decide (d ≤ f))) = true) : (decide (a < e) || (decide (a = e) && decide (c ≤ f))) = true := by
  simp only [Bool.or_eq_true, Bool.and_eq_true, decide_eq_true_eq] at *
  omega
theorem le2_to (a b c d : Int) : (decide (a < b) || (decide (a = b) && decide (c ≤ d))) = true ∨ (decide (b < a) || (decide (b = a) && decide (d ≤ c))) = true := by
  simp only [Bool.or_eq_true, Bool.and_eq_true, decide_eq_true_eq] at *
  omega
theorem le2_key {a b c d : Int} (h1 : (decide (a < b) || (decide (a = b) && decide (c ≤ d))) = true) (h2 : (decide (b < a) || (decide (b = a) && decide (d ≤ c))) = true) : c = d := by
  simp only [Bool.or_eq_true, Bool.and_eq_true, decide_eq_true_eq] at *
  omega
end Go.Proofs.Ytbojnkcolamneaa
