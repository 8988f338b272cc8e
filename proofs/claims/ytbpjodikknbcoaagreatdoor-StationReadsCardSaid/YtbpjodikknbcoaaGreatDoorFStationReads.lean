/- What the law computes: printed by a program of this claim's author. -/
import Derived.Test.YtbpjodikknbcoaaGreatDoorFm4
set_option maxRecDepth 100000
set_option linter.unusedVariables false
set_option linter.unusedSimpArgs false
namespace Go.Proofs.YtbpjodikknbcoaaGreatDoor
open Go Go.Pv
/-! diaphone/diaphonelaw09.StationReads -/
abbrev ins8 : Fs := [(.dat (.str), false), (.dat (.int .i64), false)]
abbrev res8 : Sh := .dat (.bool)
theorem lp8 : loopsIn (codeOf Tryz.f8) 0 = [] := by kernel_rfl
noncomputable def L8_0 (K : Nat) : Lib := mkLib ti [(19, [e19 K]), (27, [e27 K]), (44, [e44 K]), (45, [e45 K]), (46, [e46 K]), (47, [e47 K])] [] 8 []
theorem lib8_0 (K : Nat) : LibOk Tryz.prog (L8_0 K) := libOk_mk (ents := [(19, [e19 K]), (27, [e27 K]), (44, [e44 K]), (45, [e45 K]), (46, [e46 K]), (47, [e47 K])]) (bodies := []) (loops := []) order tiOk ⟨one_ent (e19_ok K), one_ent (e27_ok K), one_ent (e44_ok K), one_ent (e45_ok K), one_ent (e46_ok K), one_ent (e47_ok K), trivial⟩ trivial Tryz.func8 rfl lp8 trivial
noncomputable def implf8 (K : Nat) (x1 : ByteArray) (x2 : Int) : Option (Bool) :=
  (bif decide ((↑x1.size : Int) > (20000 : Int)) then (ob (implf27 K) fun y1 => some (y1)) else (ob (implf19 K x1) fun y2 => (ob (implf44 K x1) fun y3 => (ob (implf45 K y2.1 y3.1) fun y4 => (bif y4 then (bif y2.2.toList == y3.2.toList then (ob (implf46 K x2 x1) fun y5 => (ob (implf47 K x2 x1) fun y6 => (bif y5 == y6 then (ob (implf27 K) fun y7 => some (y7)) else some (false)))) else some (false)) else some (false))))))
theorem q8 (K : Nat) (x1 : ByteArray) (x2 : Int) : evFnK (α := Bool) (L8_0 K) 3 8 Tryz.f8.results.toList (codeOf Tryz.f8) ins8 res8 (fun p => p.1) (x1, x2, ()) = implf8 K x1 x2 := by kernel_rfl
noncomputable def e8 (K : Nat) : Ent := ⟨ins8, res8, Bool, fun x => implf8 K x.1 x.2.1, fun _ => (fun y => (y, (()))), false⟩
theorem e8_ok (K : Nat) : EntOk Tryz.prog 8 (e8 K) := entOk_k (ins := ins8) (rs := res8) (α := Bool) (lib8_0 K) (d := 3) Tryz.func8 rfl (by kernel_rfl) (by kernel_rfl) (by kernel_rfl) (fun x => implf8 K x.1 x.2.1) (fun p => p.1) (fun y => (y, (()))) (fun _ => rfl) (fun x => q8 K x.1 x.2.1)

end Go.Proofs.YtbpjodikknbcoaaGreatDoor
