/- What the law computes: printed by a program of this claim's author. -/
import Derived.Test.YtbpjodikknbcoaaGreatDoorFd6
set_option maxRecDepth 100000
set_option linter.unusedVariables false
set_option linter.unusedSimpArgs false
namespace Go.Proofs.YtbpjodikknbcoaaGreatDoor
open Go Go.Pv
/-! diaphone/diaphonelaw09.StationBooks -/
abbrev ins13 : Fs := [(.dat (.pr (.sl (.int .i64)) (.pr (.sl (.int .i64)) (.pr (.sl (.arr 2 (.int .i64))) (.sl (.int .i64))))), false), (.dat (.str), false)]
abbrev res13 : Sh := .dat (.bool)
theorem lp13 : loopsIn (codeOf Tryz.f13) 0 = [] := by kernel_rfl
noncomputable def L13_0 (K : Nat) : Lib := mkLibR ti [(24, [e24a K, e24b K]), (25, [e25 K]), (27, [e27 K]), (41, [e41 K]), (54, [e54a K, e54b K])] [] 13 [] [] [] [] [24, 54]
theorem lib13_0 (K : Nat) : LibOk Tryz.prog (L13_0 K) := libOk_mkR (ents := [(24, [e24a K, e24b K]), (25, [e25 K]), (27, [e27 K]), (41, [e41 K]), (54, [e54a K, e54b K])]) (bodies := []) (loops := []) order tiOk ⟨more_ent (e24a_ok K) (one_ent (e24b_ok K)), one_ent (e25_ok K), one_ent (e27_ok K), one_ent (e41_ok K), more_ent (e54a_ok K) (one_ent (e54b_ok K)), trivial⟩ trivial Tryz.func13 rfl lp13 trivial (rngs := []) trivial (frz := []) (opts := []) trivial
noncomputable def implf13 (K : Nat) (x1 : KIT) (x2 : ByteArray) : Option (Bool) :=
  (ob (implf25 K x1) fun y1 => (bif y1 then (ob (implf27 K) fun y2 => some (y2)) else (bif decide ((↑x2.size : Int) > (20000 : Int)) then (ob (implf27 K) fun y3 => some (y3)) else (oel (implf24a K x1.1 x1.2.1 x1.2.2 x2) (ob (implf24b K x1.1 x1.2.1 x1.2.2 x2) fun y4 => (oel (implf54a K x1.1 x1.2.1 x1.2.2 x2) (ob (implf54b K x1.1 x1.2.1 x1.2.2 x2) fun y5 => (bif y4.2.1 != y5.2.1 then some (false) else (bif y4.2.2 != y5.2.2 then some (false) else (bif y4.2.2 != (0 : Int) then some (false) else (ob (implf41 K y4.1 (y5.1.1, (y5.1.2.1.1, y5.1.2.1.2), y5.1.2.2.1, y5.1.2.2.2.1, y5.1.2.2.2.2.1, y5.1.2.2.2.2.2.1, y5.1.2.2.2.2.2.2.1, y5.1.2.2.2.2.2.2.2.1, y5.1.2.2.2.2.2.2.2.2.1, y5.1.2.2.2.2.2.2.2.2.2.1, y5.1.2.2.2.2.2.2.2.2.2.2.1, y5.1.2.2.2.2.2.2.2.2.2.2.2.1, y5.1.2.2.2.2.2.2.2.2.2.2.2.2.1, y5.1.2.2.2.2.2.2.2.2.2.2.2.2.2)) fun y6 => (bif y6.1 then (ob (implf27 K) fun y7 => some (y7)) else some (false))))))) fun y8 => (bif y4.2.1 != y8.2.1 then some (false) else (bif y4.2.2 != y8.2.2 then some (false) else (bif y4.2.2 != (0 : Int) then some (false) else none))))) fun y9 => (oel (implf54a K x1.1 x1.2.1 x1.2.2 x2) (ob (implf54b K x1.1 x1.2.1 x1.2.2 x2) fun y10 => (bif y9.2.1 != y10.2.1 then some (false) else (bif y9.2.2 != y10.2.2 then some (false) else (bif y9.2.2 != (0 : Int) then (ob (implf27 K) fun y11 => some (y11)) else some (false))))) fun y12 => (bif y9.2.1 != y12.2.1 then some (false) else (bif y9.2.2 != y12.2.2 then some (false) else (bif y9.2.2 != (0 : Int) then (ob (implf27 K) fun y13 => some (y13)) else some (false)))))))))
theorem q13 (K : Nat) (x1 : KIT) (x2 : ByteArray) : evFnK (α := Bool) (L13_0 K) 3 13 Tryz.f13.results.toList (codeOf Tryz.f13) ins13 res13 (fun p => p.1) (x1, x2, ()) = implf13 K x1 x2 := by kernel_rfl
noncomputable def e13 (K : Nat) : Ent := ⟨ins13, res13, Bool, fun x => implf13 K x.1 x.2.1, fun _ => (fun y => (y, (()))), false⟩
theorem e13_ok (K : Nat) : EntOk Tryz.prog 13 (e13 K) := entOk_k (ins := ins13) (rs := res13) (α := Bool) (lib13_0 K) (d := 3) Tryz.func13 rfl (by kernel_rfl) (by kernel_rfl) (by kernel_rfl) (fun x => implf13 K x.1 x.2.1) (fun p => p.1) (fun y => (y, (()))) (fun _ => rfl) (fun x => q13 K x.1 x.2.1)

end Go.Proofs.YtbpjodikknbcoaaGreatDoor
