/- What the law computes: printed by a program of this claim's author. -/
import Derived.Test.YtbpjodikknbcoaaGreatDoorFm4
set_option maxRecDepth 100000
set_option linter.unusedVariables false
set_option linter.unusedSimpArgs false
namespace Go.Proofs.YtbpjodikknbcoaaGreatDoor
open Go Go.Pv
/-! diaphone/diaphonelaw09.StationMerges -/
abbrev ins11 : Fs := [(.dat (.str), false), (.dat (.str), false)]
abbrev res11 : Sh := .dat (.bool)
theorem lp11 : loopsIn (codeOf Tryz.f11) 0 = [] := by kernel_rfl
noncomputable def L11_0 (K : Nat) : Lib := mkLib ti [(23, [e23 K]), (27, [e27 K]), (52, [e52 K])] [] 11 []
theorem lib11_0 (K : Nat) : LibOk Tryz.prog (L11_0 K) := libOk_mk (ents := [(23, [e23 K]), (27, [e27 K]), (52, [e52 K])]) (bodies := []) (loops := []) order tiOk ⟨one_ent (e23_ok K), one_ent (e27_ok K), one_ent (e52_ok K), trivial⟩ trivial Tryz.func11 rfl lp11 trivial
noncomputable def implf11 (K : Nat) (x1 : ByteArray) (x2 : ByteArray) : Option (Bool) :=
  (bif decide ((↑x1.size : Int) > (20000 : Int)) then (ob (implf27 K) fun y1 => some (y1)) else (bif decide ((↑x2.size : Int) > (20000 : Int)) then (ob (implf27 K) fun y2 => some (y2)) else (ob (implf23 K x1 x2) fun y3 => (ob (implf52 K x1 x2) fun y4 => (bif y3.1.toList == y4.1.toList then (bif y3.2.1 == y4.2.1 then (bif y3.2.2 == y4.2.2 then (ob (implf27 K) fun y5 => some (y5)) else some (false)) else some (false)) else some (false))))))
theorem q11 (K : Nat) (x1 : ByteArray) (x2 : ByteArray) : evFnK (α := Bool) (L11_0 K) 3 11 Tryz.f11.results.toList (codeOf Tryz.f11) ins11 res11 (fun p => p.1) (x1, x2, ()) = implf11 K x1 x2 := by kernel_rfl
noncomputable def e11 (K : Nat) : Ent := ⟨ins11, res11, Bool, fun x => implf11 K x.1 x.2.1, fun _ => (fun y => (y, (()))), false⟩
theorem e11_ok (K : Nat) : EntOk Tryz.prog 11 (e11 K) := entOk_k (ins := ins11) (rs := res11) (α := Bool) (lib11_0 K) (d := 3) Tryz.func11 rfl (by kernel_rfl) (by kernel_rfl) (by kernel_rfl) (fun x => implf11 K x.1 x.2.1) (fun p => p.1) (fun y => (y, (()))) (fun _ => rfl) (fun x => q11 K x.1 x.2.1)

end Go.Proofs.YtbpjodikknbcoaaGreatDoor
