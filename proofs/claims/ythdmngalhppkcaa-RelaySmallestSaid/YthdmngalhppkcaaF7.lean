/- What the functions compute: printed by a program of this claim's author. -/
import Derived.Test.YthdmngalhppkcaaF6
set_option maxRecDepth 100000
set_option linter.unusedVariables false
namespace Go.Proofs.Ythdmngalhppkcaa
open Go Go.Pv

/-! slices.Equal[[][2]int,[2]int] -/
abbrev ins81 : Fs := [(.dat (.sl (.arr 2 (.int .i64))), false), (.dat (.sl (.arr 2 (.int .i64))), false)]
abbrev res81 : Sh := .dat (.bool)
theorem lp81 : loopsIn (codeOf Try.f81) 0 = [(0, loopOf 0 (codeOf Try.f81))] := by kernel_rfl
noncomputable def L81_0 (K : Nat) : Lib := mkLib ti [] [] 81 []
theorem lib81_0 (K : Nat) : LibOk Try.prog (L81_0 K) := libOk_mk (ents := []) (bodies := []) (loops := []) order tiOk trivial trivial Try.func81 rfl lp81 ⟨no_lent, trivial⟩
abbrev i81_0 : Fs := [(.dat (.sl (.arr 2 (.int Go.IntKind.i64))), false), (.dat (.sl (.arr 2 (.int Go.IntKind.i64))), false), (.dat (.int Go.IntKind.i64), false), (.dat (.int Go.IntKind.i64), true)]
noncomputable def implb81_0 (K : Nat) (rc : (List (List Int)) → (List (List Int)) → Int → Int → Option (Sum (Int × Unit) Bool)) (x1 : (List (List Int))) (x2 : (List (List Int))) (x3 : Int) (x4 : Int) : Option (Sum (Int × Unit) Bool) :=
  (bif decide (x4 < x3) then (if (0 : Int) ≤ x4 ∧ x4 < (↑x1.length : Int) then (if (0 : Int) ≤ x4 ∧ x4 < (↑x2.length : Int) then (bif !match (x1.getD x4.toNat (List.replicate 2 ((0 : Int)))).length == (x2.getD x4.toNat (List.replicate 2 ((0 : Int)))).length with
  | false => false
  | true => ((x1.getD x4.toNat (List.replicate 2 ((0 : Int)))).zip (x2.getD x4.toNat (List.replicate 2 ((0 : Int))))).all fun p => decide (p.1 = p.2) then some (Sum.inr false) else (rc x1 x2 x3 (IntKind.i64.wrap (x4 + (1 : Int))))) else none) else none) else some (Sum.inl (x4, ())))
noncomputable def impll81_0 (K : Nat) : Nat → (List (List Int)) → (List (List Int)) → Int → Int → Option (Sum (Int × Unit) Bool)
  | 0, _, _, _, _ => none
  | k + 1, x1, x2, x3, x4 => implb81_0 K (impll81_0 K k) x1 x2 x3 x4
noncomputable def n81_0 (K : Nat) : Lent := ⟨[0, 1, 12, 13], i81_0, [14, 15, 5, 16, 17, 18, 19, 20, 21, 22, 23, 24, 4, 25], [0], true, res81, fun x => impll81_0 K K x.1 x.2.1 x.2.2.1 x.2.2.2.1⟩
theorem q81_0 (K : Nat) (rc : (List (List Int)) → (List (List Int)) → Int → Int → Option (Sum (Int × Unit) Bool)) (x1 : (List (List Int))) (x2 : (List (List Int))) (x3 : Int) (x4 : Int) : evLoop (L81_0 K) 3 81 Try.f81.results.toList (loopOf 0 (codeOf Try.f81)) 0 [0, 1, 12, 13] i81_0 [0] true res81 (fun x => rc x.1 x.2.1 x.2.2.1 x.2.2.2.1) (x1, x2, x3, x4, ()) = implb81_0 K rc x1 x2 x3 x4 := by kernel_rfl
theorem lp81_0 : loopsIn (loopOf 0 (codeOf Try.f81)) 0 = [] := by kernel_rfl
theorem n81_0_ok (K : Nat) : LentOk Try.prog Try.f81 (loopOf 0 (codeOf Try.f81)) (n81_0 K) := lentOk_k (slots := [0, 1, 12, 13]) (ins := i81_0) (writes := [14, 15, 5, 16, 17, 18, 19, 20, 21, 22, 23, 24, 4, 25]) (exits := [0]) (rets := true) (rs := res81) (lib81_0 K) lp81_0 trivial (by kernel_rfl) (by kernel_rfl) (by kernel_rfl) (by kernel_rfl) (fun k x => impll81_0 K k x.1 x.2.1 x.2.2.1 x.2.2.2.1) (fun _ => rfl) (fun k x => q81_0 K (impll81_0 K k) x.1 x.2.1 x.2.2.1 x.2.2.2.1) K
noncomputable def L81_1 (K : Nat) : Lib := mkLib ti [] [] 81 [(0, [n81_0 K])]
theorem lib81_1 (K : Nat) : LibOk Try.prog (L81_1 K) := libOk_mk (ents := []) (bodies := []) (loops := [(0, [n81_0 K])]) order tiOk trivial trivial Try.func81 rfl lp81 ⟨one_lent (n81_0_ok K), trivial⟩
noncomputable def implf81 (K : Nat) (x1 : (List (List Int))) (x2 : (List (List Int))) : Option (Bool) :=
  (bif (↑x1.length : Int) != (↑x2.length : Int) then some (false) else (ob (impll81_0 K K x1 x2 ((↑x1.length : Int)) ((0 : Int))) fun y1 => (match y1 with | .inl y2 => some (true) | .inr y2 => some (y2))))
theorem q81 (K : Nat) (x1 : (List (List Int))) (x2 : (List (List Int))) : evFnK (α := Bool) (L81_1 K) 3 81 Try.f81.results.toList (codeOf Try.f81) ins81 res81 (fun p => p.1) (x1, x2, ()) = implf81 K x1 x2 := by kernel_rfl
noncomputable def e81 (K : Nat) : Ent := ⟨ins81, res81, Bool, fun x => implf81 K x.1 x.2.1, fun _ => (fun y => (y, (())))⟩
theorem e81_ok (K : Nat) : EntOk Try.prog 81 (e81 K) := entOk_k (ins := ins81) (rs := res81) (α := Bool) (lib81_1 K) (d := 3) Try.func81 rfl (by kernel_rfl) (by kernel_rfl) (by kernel_rfl) (fun x => implf81 K x.1 x.2.1) (fun p => p.1) (fun y => (y, (()))) (fun _ => rfl) (fun x => q81 K x.1 x.2.1)

/-! diaphone/relay.Same -/
abbrev ins52 : Fs := [(.dat (.pr (.sl (.arr 2 (.int .i64))) (.sl (.int .i64))), false), (.dat (.pr (.sl (.arr 2 (.int .i64))) (.sl (.int .i64))), false)]
abbrev res52 : Sh := .cons (.dat (.bool)) (.cons (.dat (.int .i64)) (.un))
theorem lp52 : loopsIn (codeOf Try.f52) 0 = [] := by kernel_rfl
noncomputable def L52_0 (K : Nat) : Lib := mkLib ti [(76, [e76 K]), (80, [e80 K]), (81, [e81 K]), (82, [e82 K])] [] 52 []
theorem lib52_0 (K : Nat) : LibOk Try.prog (L52_0 K) := libOk_mk (ents := [(76, [e76 K]), (80, [e80 K]), (81, [e81 K]), (82, [e82 K])]) (bodies := []) (loops := []) order tiOk ⟨one_ent (e76_ok K), one_ent (e80_ok K), one_ent (e81_ok K), one_ent (e82_ok K), trivial⟩ trivial Try.func52 rfl lp52 trivial
noncomputable def implf52 (K : Nat) (x1 : ((List (List Int)) × (List Int))) (x2 : ((List (List Int)) × (List Int))) : Option (Bool × Int) :=
  (ob (implf76 K x1 x2) fun y1 => (bif y1 != (0 : Int) then some ((false, y1)) else (ob (implf80 K x1) fun y2 => (ob (implf80 K x2) fun y3 => (ob (implf81 K y2.1 y3.1) fun y4 => (bif y4 then (ob (implf82 K y2.2 y3.2) fun y5 => some ((y5, (0 : Int)))) else some ((false, (0 : Int)))))))))
theorem q52 (K : Nat) (x1 : ((List (List Int)) × (List Int))) (x2 : ((List (List Int)) × (List Int))) : evFnK (α := Bool × Int) (L52_0 K) 3 52 Try.f52.results.toList (codeOf Try.f52) ins52 res52 (fun p => (p.1.1, p.1.2.1)) (x1, x2, ()) = implf52 K x1 x2 := by kernel_rfl
noncomputable def e52 (K : Nat) : Ent := ⟨ins52, res52, Bool × Int, fun x => implf52 K x.1 x.2.1, fun _ => (fun y => ((y.1, y.2, ()), (())))⟩
theorem e52_ok (K : Nat) : EntOk Try.prog 52 (e52 K) := entOk_k (ins := ins52) (rs := res52) (α := Bool × Int) (lib52_0 K) (d := 3) Try.func52 rfl (by kernel_rfl) (by kernel_rfl) (by kernel_rfl) (fun x => implf52 K x.1 x.2.1) (fun p => (p.1.1, p.1.2.1)) (fun y => ((y.1, y.2, ()), (()))) (fun _ => rfl) (fun x => q52 K x.1 x.2.1)

/-! diaphone/diaphonelaw08.RelaySmallest -/
abbrev ins15 : Fs := [(.dat (.pr (.sl (.arr 2 (.int .i64))) (.sl (.int .i64))), false)]
abbrev res15 : Sh := .dat (.bool)
theorem lp15 : loopsIn (codeOf Try.f15) 0 = [] := by kernel_rfl
noncomputable def L15_0 (K : Nat) : Lib := mkLib ti [(19, [e19 K]), (20, [e20 K]), (34, [e34 K]), (50, [e50 K]), (51, [e51 K]), (52, [e52 K])] [] 15 []
theorem lib15_0 (K : Nat) : LibOk Try.prog (L15_0 K) := libOk_mk (ents := [(19, [e19 K]), (20, [e20 K]), (34, [e34 K]), (50, [e50 K]), (51, [e51 K]), (52, [e52 K])]) (bodies := []) (loops := []) order tiOk ⟨one_ent (e19_ok K), one_ent (e20_ok K), one_ent (e34_ok K), one_ent (e50_ok K), one_ent (e51_ok K), one_ent (e52_ok K), trivial⟩ trivial Try.func15 rfl lp15 trivial
noncomputable def implf15 (K : Nat) (x1 : ((List (List Int)) × (List Int))) : Option (Bool) :=
  (ob (implf19 K x1 []) fun y1 => (bif y1 then (ob (implf20 K) fun y2 => some (y2)) else (ob (implf50 K x1) fun y3 => (ob (implf51 K x1) fun y4 => (ob (implf34 K (y3.1.1, y3.1.2) (y4.1.1, y4.1.2)) fun y5 => (bif !y5 then some (false) else (bif y3.2 != y4.2 then some (false) else (bif y3.2 != (0 : Int) then (ob (implf20 K) fun y6 => some (y6)) else (ob (implf52 K (y3.1.1, y3.1.2) x1) fun y7 => (ob (implf50 K (y3.1.1, y3.1.2)) fun y8 => (bif y7.2 == (0 : Int) then (bif y7.1 then (bif y8.2 == (0 : Int) then (ob (implf34 K (y8.1.1, y8.1.2) (y3.1.1, y3.1.2)) fun y9 => (bif y9 then (ob (implf20 K) fun y10 => some (y10)) else some (false))) else some (false)) else some (false)) else some (false))))))))))))
theorem q15 (K : Nat) (x1 : ((List (List Int)) × (List Int))) : evFnK (α := Bool) (L15_0 K) 3 15 Try.f15.results.toList (codeOf Try.f15) ins15 res15 (fun p => p.1) (x1, ()) = implf15 K x1 := by kernel_rfl
noncomputable def e15 (K : Nat) : Ent := ⟨ins15, res15, Bool, fun x => implf15 K x.1, fun _ => (fun y => (y, (())))⟩
theorem e15_ok (K : Nat) : EntOk Try.prog 15 (e15 K) := entOk_k (ins := ins15) (rs := res15) (α := Bool) (lib15_0 K) (d := 3) Try.func15 rfl (by kernel_rfl) (by kernel_rfl) (by kernel_rfl) (fun x => implf15 K x.1) (fun p => p.1) (fun y => (y, (()))) (fun _ => rfl) (fun x => q15 K x.1)

/-! diaphone/diaphoneref08.Same -/
abbrev ins53 : Fs := [(.dat (.pr (.sl (.arr 2 (.int .i64))) (.sl (.int .i64))), false), (.dat (.pr (.sl (.arr 2 (.int .i64))) (.sl (.int .i64))), false)]
abbrev res53 : Sh := .cons (.dat (.bool)) (.cons (.dat (.int .i64)) (.un))
theorem lp53 : loopsIn (codeOf Try.f53) 0 = [] := by kernel_rfl
noncomputable def L53_0 (K : Nat) : Lib := mkLib ti [(78, [e78 K]), (79, [e79 K])] [] 53 []
theorem lib53_0 (K : Nat) : LibOk Try.prog (L53_0 K) := libOk_mk (ents := [(78, [e78 K]), (79, [e79 K])]) (bodies := []) (loops := []) order tiOk ⟨one_ent (e78_ok K), one_ent (e79_ok K), trivial⟩ trivial Try.func53 rfl lp53 trivial
noncomputable def implf53 (K : Nat) (x1 : ((List (List Int)) × (List Int))) (x2 : ((List (List Int)) × (List Int))) : Option (Bool × Int) :=
  (ob (implf78 K x1 x2) fun y1 => (bif y1 != (0 : Int) then some ((false, y1)) else (ob (implf79 K x1 x2 ((0 : Int)) ((0 : Int))) fun y2 => some ((match y2.2 with
  | true => false
  | false => true,
  (0 : Int))))))
theorem q53 (K : Nat) (x1 : ((List (List Int)) × (List Int))) (x2 : ((List (List Int)) × (List Int))) : evFnK (α := Bool × Int) (L53_0 K) 3 53 Try.f53.results.toList (codeOf Try.f53) ins53 res53 (fun p => (p.1.1, p.1.2.1)) (x1, x2, ()) = implf53 K x1 x2 := by kernel_rfl
noncomputable def e53 (K : Nat) : Ent := ⟨ins53, res53, Bool × Int, fun x => implf53 K x.1 x.2.1, fun _ => (fun y => ((y.1, y.2, ()), (())))⟩
theorem e53_ok (K : Nat) : EntOk Try.prog 53 (e53 K) := entOk_k (ins := ins53) (rs := res53) (α := Bool × Int) (lib53_0 K) (d := 3) Try.func53 rfl (by kernel_rfl) (by kernel_rfl) (by kernel_rfl) (fun x => implf53 K x.1 x.2.1) (fun p => (p.1.1, p.1.2.1)) (fun y => ((y.1, y.2, ()), (()))) (fun _ => rfl) (fun x => q53 K x.1 x.2.1)

/-! diaphone/diaphonelaw08.RelaySame -/
abbrev ins16 : Fs := [(.dat (.pr (.sl (.arr 2 (.int .i64))) (.sl (.int .i64))), false), (.dat (.pr (.sl (.arr 2 (.int .i64))) (.sl (.int .i64))), false)]
abbrev res16 : Sh := .dat (.bool)
theorem lp16 : loopsIn (codeOf Try.f16) 0 = [] := by kernel_rfl
noncomputable def L16_0 (K : Nat) : Lib := mkLib ti [(19, [e19 K]), (20, [e20 K]), (34, [e34 K]), (50, [e50 K]), (52, [e52 K]), (53, [e53 K])] [] 16 []
theorem lib16_0 (K : Nat) : LibOk Try.prog (L16_0 K) := libOk_mk (ents := [(19, [e19 K]), (20, [e20 K]), (34, [e34 K]), (50, [e50 K]), (52, [e52 K]), (53, [e53 K])]) (bodies := []) (loops := []) order tiOk ⟨one_ent (e19_ok K), one_ent (e20_ok K), one_ent (e34_ok K), one_ent (e50_ok K), one_ent (e52_ok K), one_ent (e53_ok K), trivial⟩ trivial Try.func16 rfl lp16 trivial
noncomputable def implf16 (K : Nat) (x1 : ((List (List Int)) × (List Int))) (x2 : ((List (List Int)) × (List Int))) : Option (Bool) :=
  (ob (implf19 K x1 []) fun y1 => (bif y1 then (ob (implf20 K) fun y2 => some (y2)) else (ob (implf19 K x2 []) fun y3 => (bif y3 then (ob (implf20 K) fun y4 => some (y4)) else (ob (implf52 K x1 x2) fun y5 => (ob (implf53 K x1 x2) fun y6 => (bif !y5.1 == y6.1 then some (false) else (bif y5.2 != y6.2 then some (false) else (bif y5.2 != (0 : Int) then (ob (implf20 K) fun y7 => some (y7)) else (ob (implf50 K x1) fun y8 => (ob (implf50 K x2) fun y9 => (bif y8.2 == (0 : Int) then (bif y9.2 == (0 : Int) then (ob (implf34 K (y8.1.1, y8.1.2) (y9.1.1, y9.1.2)) fun y10 => (bif y5.1 == y10 then (ob (implf20 K) fun y11 => some (y11)) else some (false))) else some (false)) else some (false)))))))))))))
theorem q16 (K : Nat) (x1 : ((List (List Int)) × (List Int))) (x2 : ((List (List Int)) × (List Int))) : evFnK (α := Bool) (L16_0 K) 3 16 Try.f16.results.toList (codeOf Try.f16) ins16 res16 (fun p => p.1) (x1, x2, ()) = implf16 K x1 x2 := by kernel_rfl
noncomputable def e16 (K : Nat) : Ent := ⟨ins16, res16, Bool, fun x => implf16 K x.1 x.2.1, fun _ => (fun y => (y, (())))⟩
theorem e16_ok (K : Nat) : EntOk Try.prog 16 (e16 K) := entOk_k (ins := ins16) (rs := res16) (α := Bool) (lib16_0 K) (d := 3) Try.func16 rfl (by kernel_rfl) (by kernel_rfl) (by kernel_rfl) (fun x => implf16 K x.1 x.2.1) (fun p => p.1) (fun y => (y, (()))) (fun _ => rfl) (fun x => q16 K x.1 x.2.1)

end Go.Proofs.Ythdmngalhppkcaa
