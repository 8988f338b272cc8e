/- What the functions compute: printed by a program of this claim's author. -/
import Derived.Test.YtbpjodikknbcoaaGreatDoorFp3
set_option maxRecDepth 100000
set_option linter.unusedVariables false
set_option linter.unusedSimpArgs false
namespace Go.Proofs.YtbpjodikknbcoaaGreatDoor
open Go Go.Pv
/-! diaphone/diaphoneref09.New -/
abbrev ins43a : Fs := [(.dat (.sl (.int .i64)), false), (.dat (.sl (.int .i64)), false), (.dat (.pr (.sl (.arr 2 (.int .i64))) (.sl (.int .i64))), false)]
abbrev res43a : Sh := .cons (.dat .np) (.cons (.dat (.int .i64)) (.un))
theorem lp43 : loopsIn (codeOf Tryz.f43) 0 = [] := by kernel_rfl
noncomputable def L43a_0 (K : Nat) : Lib := mkLib ti [(81, [e81 K]), (82, [e82 K]), (83, [e83 K])] [(49, Tryz.f49)] 43 []
theorem lib43a_0 (K : Nat) : LibOk Tryz.prog (L43a_0 K) := libOk_mk (ents := [(81, [e81 K]), (82, [e82 K]), (83, [e83 K])]) (bodies := [(49, Tryz.f49)]) (loops := []) order tiOk ⟨one_ent (e81_ok K), one_ent (e82_ok K), one_ent (e83_ok K), trivial⟩ ⟨bod49, trivial⟩ Tryz.func43 rfl lp43 trivial
noncomputable def implf43a (K : Nat) (x1 : (List Int)) (x2 : (List Int)) (x3 : BOX) : Option (Unit × Int) :=
  (ob (implf81 K x1) fun y1 => (bif y1.2 != (0 : Int) then some (((), y1.2)) else (ob (implf82 K x2) fun y2 => (bif y2 != (0 : Int) then some (((), y2)) else (ob (implf83 K x3) fun y3 => (bif y3 != (0 : Int) then some (((), y3)) else (if ((List.replicate 0 ((0 : Int))).length + x2.length) * 8 ≤ 140737488355328 then (if ((List.replicate 0 (List.replicate 2 ((0 : Int)))).length + x3.1.length) * 16 ≤ 140737488355328 then (if ((List.replicate 0 ((0 : Int))).length + x3.2.length) * 8 ≤ 140737488355328 then (bif (Nat.add 1 (Nat.add 2 (1 + 10))).succ.beq 15 && true then none else none) else none) else none) else none)))))))
theorem q43a (K : Nat) (x1 : (List Int)) (x2 : (List Int)) (x3 : BOX) : evFnK (α := Unit × Int) (L43a_0 K) 3 43 Tryz.f43.results.toList (codeOf Tryz.f43) ins43a res43a (fun p => (p.1.1, p.1.2.1)) (x1, x2, x3, ()) = implf43a K x1 x2 x3 := by kernel_rfl
noncomputable def e43a (K : Nat) : Ent := ⟨ins43a, res43a, Unit × Int, fun x => implf43a K x.1 x.2.1 x.2.2.1, fun _ => (fun y => ((y.1, y.2, ()), (()))), false⟩
theorem e43a_ok (K : Nat) : EntOk Tryz.prog 43 (e43a K) := entOk_k (ins := ins43a) (rs := res43a) (α := Unit × Int) (lib43a_0 K) (d := 3) Tryz.func43 rfl (by kernel_rfl) (by kernel_rfl) (by kernel_rfl) (fun x => implf43a K x.1 x.2.1 x.2.2.1) (fun p => (p.1.1, p.1.2.1)) (fun y => ((y.1, y.2, ()), (()))) (fun _ => rfl) (fun x => q43a K x.1 x.2.1 x.2.2.1)

abbrev ins43b : Fs := [(.dat (.sl (.int .i64)), false), (.dat (.sl (.int .i64)), false), (.dat (.pr (.sl (.arr 2 (.int .i64))) (.sl (.int .i64))), false)]
abbrev res43b : Sh := .cons (.box (.pr (.own (.int .i64)) (.pr (.pr (.own (.arr 2 (.int .i64))) (.own (.int .i64))) (.pr (.dat (.int .i64)) (.pr (.dat (.int .i64)) (.pr (.dat (.int .i64)) (.pr (.dat (.int .i64)) (.pr (.dat (.int .i64)) (.pr (.dat (.int .i64)) (.pr (.dat (.int .i64)) (.pr (.dat (.int .i64)) (.pr (.dat (.int .i64)) (.pr (.dat (.int .i64)) (.pr (.dat (.bool)) (.own (.str)))))))))))))))) (.cons (.dat (.int .i64)) (.un))
noncomputable def L43b_0 (K : Nat) : Lib := mkLib ti [(81, [e81 K]), (82, [e82 K]), (83, [e83 K])] [(49, Tryz.f49)] 43 []
theorem lib43b_0 (K : Nat) : LibOk Tryz.prog (L43b_0 K) := libOk_mk (ents := [(81, [e81 K]), (82, [e82 K]), (83, [e83 K])]) (bodies := [(49, Tryz.f49)]) (loops := []) order tiOk ⟨one_ent (e81_ok K), one_ent (e82_ok K), one_ent (e83_ok K), trivial⟩ ⟨bod49, trivial⟩ Tryz.func43 rfl lp43 trivial
noncomputable def implf43b (K : Nat) (x1 : (List Int)) (x2 : (List Int)) (x3 : BOX) : Option (REF × Int) :=
  (ob (implf81 K x1) fun y1 => (bif y1.2 != (0 : Int) then none else (ob (implf82 K x2) fun y2 => (bif y2 != (0 : Int) then none else (ob (implf83 K x3) fun y3 => (bif y3 != (0 : Int) then none else (if ((List.replicate 0 ((0 : Int))).length + x2.length) * 8 ≤ 140737488355328 then (if ((List.replicate 0 (List.replicate 2 ((0 : Int)))).length + x3.1.length) * 16 ≤ 140737488355328 then (if ((List.replicate 0 ((0 : Int))).length + x3.2.length) * 8 ≤ 140737488355328 then (bif (Nat.add 1 (Nat.add 2 (1 + 10))).succ.beq 15 && true then some (((List.replicate 0 ((0 : Int)) ++ x2, (List.replicate 0 (List.replicate 2 ((0 : Int))) ++ x3.1, List.replicate 0 ((0 : Int)) ++ x3.2), y1.1, (0 : Int), (0 : Int), (0 : Int), (0 : Int), (0 : Int), (0 : Int), (0 : Int), (0 : Int), (0 : Int), false, []), (0 : Int))) else none) else none) else none) else none)))))))
theorem q43b (K : Nat) (x1 : (List Int)) (x2 : (List Int)) (x3 : BOX) : evFnK (α := REF × Int) (L43b_0 K) 3 43 Tryz.f43.results.toList (codeOf Tryz.f43) ins43b res43b (fun p => (p.1.1, p.1.2.1)) (x1, x2, x3, ()) = implf43b K x1 x2 x3 := by kernel_rfl
noncomputable def e43b (K : Nat) : Ent := ⟨ins43b, res43b, REF × Int, fun x => implf43b K x.1 x.2.1 x.2.2.1, fun _ => (fun y => ((y.1, y.2, ()), (()))), false⟩
theorem e43b_ok (K : Nat) : EntOk Tryz.prog 43 (e43b K) := entOk_k (ins := ins43b) (rs := res43b) (α := REF × Int) (lib43b_0 K) (d := 3) Tryz.func43 rfl (by kernel_rfl) (by kernel_rfl) (by kernel_rfl) (fun x => implf43b K x.1 x.2.1 x.2.2.1) (fun p => (p.1.1, p.1.2.1)) (fun y => ((y.1, y.2, ()), (()))) (fun _ => rfl) (fun x => q43b K x.1 x.2.1 x.2.2.1)

/-! diaphone/diaphonelaw09.failed -/
abbrev ins29 : Fs := [(.dat (.pr (.sl (.int .i64)) (.pr (.sl (.int .i64)) (.pr (.sl (.arr 2 (.int .i64))) (.sl (.int .i64))))), false)]
abbrev res29 : Sh := .dat (.bool)
theorem lp29 : loopsIn (codeOf Tryz.f29) 0 = [] := by kernel_rfl
noncomputable def L29_0 (K : Nat) : Lib := mkLibR ti [(27, [e27 K]), (43, [e43a K, e43b K]), (50, [e50a K, e50b K])] [] 29 [] [] [] [] [43, 50]
theorem lib29_0 (K : Nat) : LibOk Tryz.prog (L29_0 K) := libOk_mkR (ents := [(27, [e27 K]), (43, [e43a K, e43b K]), (50, [e50a K, e50b K])]) (bodies := []) (loops := []) order tiOk ⟨one_ent (e27_ok K), more_ent (e43a_ok K) (one_ent (e43b_ok K)), more_ent (e50a_ok K) (one_ent (e50b_ok K)), trivial⟩ trivial Tryz.func29 rfl lp29 trivial (rngs := []) trivial (frz := []) (opts := []) trivial
noncomputable def implf29 (K : Nat) (x1 : KIT) : Option (Bool) :=
  (oel (implf50a K x1.1 x1.2.1 x1.2.2) (ob (implf50b K x1.1 x1.2.1 x1.2.2) fun y1 => (oel (implf43a K x1.1 x1.2.1 x1.2.2) (ob (implf43b K x1.1 x1.2.1 x1.2.2) fun y2 => (bif y1.2 == y2.2 then (bif y1.2 != (0 : Int) then (ob (implf27 K) fun y3 => some (y3)) else some (false)) else some (false))) fun y4 => (bif y1.2 == y4.2 then (bif y1.2 != (0 : Int) then (ob (implf27 K) fun y5 => some (y5)) else some (false)) else some (false)))) fun y6 => (oel (implf43a K x1.1 x1.2.1 x1.2.2) (ob (implf43b K x1.1 x1.2.1 x1.2.2) fun y7 => (bif y6.2 == y7.2 then (bif y6.2 != (0 : Int) then (ob (implf27 K) fun y8 => some (y8)) else some (false)) else some (false))) fun y9 => (bif y6.2 == y9.2 then (bif y6.2 != (0 : Int) then (ob (implf27 K) fun y10 => some (y10)) else some (false)) else some (false))))
theorem q29 (K : Nat) (x1 : KIT) : evFnK (α := Bool) (L29_0 K) 3 29 Tryz.f29.results.toList (codeOf Tryz.f29) ins29 res29 (fun p => p.1) (x1, ()) = implf29 K x1 := by kernel_rfl
noncomputable def e29 (K : Nat) : Ent := ⟨ins29, res29, Bool, fun x => implf29 K x.1, fun _ => (fun y => (y, (()))), false⟩
theorem e29_ok (K : Nat) : EntOk Tryz.prog 29 (e29 K) := entOk_k (ins := ins29) (rs := res29) (α := Bool) (lib29_0 K) (d := 3) Tryz.func29 rfl (by kernel_rfl) (by kernel_rfl) (by kernel_rfl) (fun x => implf29 K x.1) (fun p => p.1) (fun y => (y, (()))) (fun _ => rfl) (fun x => q29 K x.1)

/-! diaphone/diaphonelaw09.few -/
abbrev ins30 : Fs := [(.dat (.sl (.str)), false)]
abbrev res30 : Sh := .dat (.sl (.str))
theorem lp30 : loopsIn (codeOf Tryz.f30) 0 = [] := by kernel_rfl
noncomputable def L30_0 (K : Nat) : Lib := mkLib ti [] [] 30 []
theorem lib30_0 (K : Nat) : LibOk Tryz.prog (L30_0 K) := libOk_mk (ents := []) (bodies := []) (loops := []) order tiOk trivial trivial Tryz.func30 rfl lp30 trivial
noncomputable def implf30 (K : Nat) (x1 : (List ByteArray)) : Option ((List ByteArray)) :=
  (bif decide ((↑x1.length : Int) > (40 : Int)) then (if (0 : Int) ≤ (0 : Int) ∧ (0 : Int) ≤ (40 : Int) ∧ (40 : Int) ≤ (↑x1.length : Int) then (if ((List.replicate 0 ByteArray.empty).length + (List.take (40) x1).length) * 16 ≤ 140737488355328 then some (List.replicate 0 ByteArray.empty ++ List.take (40) x1) else none) else none) else some (x1))
theorem q30 (K : Nat) (x1 : (List ByteArray)) : evFnK (α := (List ByteArray)) (L30_0 K) 3 30 Tryz.f30.results.toList (codeOf Tryz.f30) ins30 res30 (fun p => p.1) (x1, ()) = implf30 K x1 := by kernel_rfl
noncomputable def e30 (K : Nat) : Ent := ⟨ins30, res30, (List ByteArray), fun x => implf30 K x.1, fun _ => (fun y => (y, (()))), false⟩
theorem e30_ok (K : Nat) : EntOk Tryz.prog 30 (e30 K) := entOk_k (ins := ins30) (rs := res30) (α := (List ByteArray)) (lib30_0 K) (d := 3) Tryz.func30 rfl (by kernel_rfl) (by kernel_rfl) (by kernel_rfl) (fun x => implf30 K x.1) (fun p => p.1) (fun y => (y, (()))) (fun _ => rfl) (fun x => q30 K x.1)

/-! (*diaphone/station.Station).Fired -/
abbrev ins34a : Fs := [(.box (.dat (.pr (.pr (.int .i32) (.int .u32)) (.pr (.sl (.int .i64)) (.pr (.sl (.int .i64)) (.pr (.pr (.sl (.arr 2 (.int .i64))) (.sl (.int .i64))) (.pr (.int .i64) (.pr (.bool) (.pr (.int .i64) (.pr (.int .i64) (.pr (.int .i64) (.pr (.int .i64) (.pr (.int .i64) (.pr (.int .i64) (.pr (.int .i64) (.pr (.int .i64) (.pr (.int .i64) (.pr (.int .i64) (.sl (.str))))))))))))))))))), false)]
abbrev res34a : Sh := .cons (.dat (.int .i64)) (.cons (.dat (.int .i64)) (.un))
theorem lp34 : loopsIn (codeOf Tryz.f34) 0 = [] := by kernel_rfl
noncomputable def L34a_0 (K : Nat) : Lib := mkLib ti [(68, [e68a K, e68b K])] [] 34 []
theorem lib34a_0 (K : Nat) : LibOk Tryz.prog (L34a_0 K) := libOk_mk (ents := [(68, [e68a K, e68b K])]) (bodies := []) (loops := []) order tiOk ⟨more_ent (e68a_ok K) (one_ent (e68b_ok K)), trivial⟩ trivial Tryz.func34 rfl lp34 trivial
noncomputable def implf34a (K : Nat) (x1 : STN) : Option (Int × Int) :=
  (ob (implf68a K x1) fun y1 => some ((y1.2.2.2.2.2.2.2.2.1, y1.2.2.2.2.2.2.2.2.2.1)))
theorem q34a (K : Nat) (x1 : STN) : evFnK (α := Int × Int) (L34a_0 K) 3 34 Tryz.f34.results.toList (codeOf Tryz.f34) ins34a res34a (fun p => (p.1.1, p.1.2.1)) (x1, ()) = implf34a K x1 := by kernel_rfl
noncomputable def e34a (K : Nat) : Ent := ⟨ins34a, res34a, Int × Int, fun x => implf34a K x.1, fun _ => (fun y => ((y.1, y.2, ()), (()))), false⟩
theorem e34a_ok (K : Nat) : EntOk Tryz.prog 34 (e34a K) := entOk_k (ins := ins34a) (rs := res34a) (α := Int × Int) (lib34a_0 K) (d := 3) Tryz.func34 rfl (by kernel_rfl) (by kernel_rfl) (by kernel_rfl) (fun x => implf34a K x.1) (fun p => (p.1.1, p.1.2.1)) (fun y => ((y.1, y.2, ()), (()))) (fun _ => rfl) (fun x => q34a K x.1)

abbrev ins34b : Fs := [(.dat .np, false)]
abbrev res34b : Sh := .cons (.dat (.int .i64)) (.cons (.dat (.int .i64)) (.un))
noncomputable def L34b_0 (K : Nat) : Lib := mkLib ti [(68, [e68a K, e68b K])] [] 34 []
theorem lib34b_0 (K : Nat) : LibOk Tryz.prog (L34b_0 K) := libOk_mk (ents := [(68, [e68a K, e68b K])]) (bodies := []) (loops := []) order tiOk ⟨more_ent (e68a_ok K) (one_ent (e68b_ok K)), trivial⟩ trivial Tryz.func34 rfl lp34 trivial
noncomputable def implf34b (K : Nat) (x1 : Unit) : Option (Int × Int) :=
  (ob (implf68b K x1) fun y1 => some ((y1.2.2.2.2.2.2.2.2.1, y1.2.2.2.2.2.2.2.2.2.1)))
theorem q34b (K : Nat) (x1 : Unit) : evFnK (α := Int × Int) (L34b_0 K) 3 34 Tryz.f34.results.toList (codeOf Tryz.f34) ins34b res34b (fun p => (p.1.1, p.1.2.1)) (x1, ()) = implf34b K x1 := by kernel_rfl
noncomputable def e34b (K : Nat) : Ent := ⟨ins34b, res34b, Int × Int, fun x => implf34b K x.1, fun _ => (fun y => ((y.1, y.2, ()), (()))), false⟩
theorem e34b_ok (K : Nat) : EntOk Tryz.prog 34 (e34b K) := entOk_k (ins := ins34b) (rs := res34b) (α := Int × Int) (lib34b_0 K) (d := 3) Tryz.func34 rfl (by kernel_rfl) (by kernel_rfl) (by kernel_rfl) (fun x => implf34b K x.1) (fun p => (p.1.1, p.1.2.1)) (fun y => ((y.1, y.2, ()), (()))) (fun _ => rfl) (fun x => q34b K x.1)

/-! (*diaphone/station.Station).Hour -/
abbrev ins56a : Fs := [(.box (.dat (.pr (.pr (.int .i32) (.int .u32)) (.pr (.sl (.int .i64)) (.pr (.sl (.int .i64)) (.pr (.pr (.sl (.arr 2 (.int .i64))) (.sl (.int .i64))) (.pr (.int .i64) (.pr (.bool) (.pr (.int .i64) (.pr (.int .i64) (.pr (.int .i64) (.pr (.int .i64) (.pr (.int .i64) (.pr (.int .i64) (.pr (.int .i64) (.pr (.int .i64) (.pr (.int .i64) (.pr (.int .i64) (.sl (.str))))))))))))))))))), false)]
abbrev res56a : Sh := .dat (.int .i64)
theorem lp56 : loopsIn (codeOf Tryz.f56) 0 = [] := by kernel_rfl
noncomputable def L56a_0 (K : Nat) : Lib := mkLib ti [(68, [e68a K, e68b K])] [] 56 []
theorem lib56a_0 (K : Nat) : LibOk Tryz.prog (L56a_0 K) := libOk_mk (ents := [(68, [e68a K, e68b K])]) (bodies := []) (loops := []) order tiOk ⟨more_ent (e68a_ok K) (one_ent (e68b_ok K)), trivial⟩ trivial Tryz.func56 rfl lp56 trivial
noncomputable def implf56a (K : Nat) (x1 : STN) : Option (Int) :=
  (ob (implf68a K x1) fun y1 => some (y1.1))
theorem q56a (K : Nat) (x1 : STN) : evFnK (α := Int) (L56a_0 K) 3 56 Tryz.f56.results.toList (codeOf Tryz.f56) ins56a res56a (fun p => p.1) (x1, ()) = implf56a K x1 := by kernel_rfl
noncomputable def e56a (K : Nat) : Ent := ⟨ins56a, res56a, Int, fun x => implf56a K x.1, fun _ => (fun y => (y, (()))), false⟩
theorem e56a_ok (K : Nat) : EntOk Tryz.prog 56 (e56a K) := entOk_k (ins := ins56a) (rs := res56a) (α := Int) (lib56a_0 K) (d := 3) Tryz.func56 rfl (by kernel_rfl) (by kernel_rfl) (by kernel_rfl) (fun x => implf56a K x.1) (fun p => p.1) (fun y => (y, (()))) (fun _ => rfl) (fun x => q56a K x.1)

abbrev ins56b : Fs := [(.dat .np, false)]
abbrev res56b : Sh := .dat (.int .i64)
noncomputable def L56b_0 (K : Nat) : Lib := mkLib ti [(68, [e68a K, e68b K])] [] 56 []
theorem lib56b_0 (K : Nat) : LibOk Tryz.prog (L56b_0 K) := libOk_mk (ents := [(68, [e68a K, e68b K])]) (bodies := []) (loops := []) order tiOk ⟨more_ent (e68a_ok K) (one_ent (e68b_ok K)), trivial⟩ trivial Tryz.func56 rfl lp56 trivial
noncomputable def implf56b (K : Nat) (x1 : Unit) : Option (Int) :=
  (ob (implf68b K x1) fun y1 => some (y1.1))
theorem q56b (K : Nat) (x1 : Unit) : evFnK (α := Int) (L56b_0 K) 3 56 Tryz.f56.results.toList (codeOf Tryz.f56) ins56b res56b (fun p => p.1) (x1, ()) = implf56b K x1 := by kernel_rfl
noncomputable def e56b (K : Nat) : Ent := ⟨ins56b, res56b, Int, fun x => implf56b K x.1, fun _ => (fun y => (y, (()))), false⟩
theorem e56b_ok (K : Nat) : EntOk Tryz.prog 56 (e56b K) := entOk_k (ins := ins56b) (rs := res56b) (α := Int) (lib56b_0 K) (d := 3) Tryz.func56 rfl (by kernel_rfl) (by kernel_rfl) (by kernel_rfl) (fun x => implf56b K x.1) (fun p => p.1) (fun y => (y, (()))) (fun _ => rfl) (fun x => q56b K x.1)

/-! (*diaphone/station.Station).State -/
abbrev ins57a : Fs := [(.box (.dat (.pr (.pr (.int .i32) (.int .u32)) (.pr (.sl (.int .i64)) (.pr (.sl (.int .i64)) (.pr (.pr (.sl (.arr 2 (.int .i64))) (.sl (.int .i64))) (.pr (.int .i64) (.pr (.bool) (.pr (.int .i64) (.pr (.int .i64) (.pr (.int .i64) (.pr (.int .i64) (.pr (.int .i64) (.pr (.int .i64) (.pr (.int .i64) (.pr (.int .i64) (.pr (.int .i64) (.pr (.int .i64) (.sl (.str))))))))))))))))))), false)]
abbrev res57a : Sh := .dat (.int .i64)
theorem lp57 : loopsIn (codeOf Tryz.f57) 0 = [] := by kernel_rfl
noncomputable def L57a_0 (K : Nat) : Lib := mkLib ti [(68, [e68a K, e68b K])] [] 57 []
theorem lib57a_0 (K : Nat) : LibOk Tryz.prog (L57a_0 K) := libOk_mk (ents := [(68, [e68a K, e68b K])]) (bodies := []) (loops := []) order tiOk ⟨more_ent (e68a_ok K) (one_ent (e68b_ok K)), trivial⟩ trivial Tryz.func57 rfl lp57 trivial
noncomputable def implf57a (K : Nat) (x1 : STN) : Option (Int) :=
  (ob (implf68a K x1) fun y1 => some (y1.2.2.1))
theorem q57a (K : Nat) (x1 : STN) : evFnK (α := Int) (L57a_0 K) 3 57 Tryz.f57.results.toList (codeOf Tryz.f57) ins57a res57a (fun p => p.1) (x1, ()) = implf57a K x1 := by kernel_rfl
noncomputable def e57a (K : Nat) : Ent := ⟨ins57a, res57a, Int, fun x => implf57a K x.1, fun _ => (fun y => (y, (()))), false⟩
theorem e57a_ok (K : Nat) : EntOk Tryz.prog 57 (e57a K) := entOk_k (ins := ins57a) (rs := res57a) (α := Int) (lib57a_0 K) (d := 3) Tryz.func57 rfl (by kernel_rfl) (by kernel_rfl) (by kernel_rfl) (fun x => implf57a K x.1) (fun p => p.1) (fun y => (y, (()))) (fun _ => rfl) (fun x => q57a K x.1)

abbrev ins57b : Fs := [(.dat .np, false)]
abbrev res57b : Sh := .dat (.int .i64)
noncomputable def L57b_0 (K : Nat) : Lib := mkLib ti [(68, [e68a K, e68b K])] [] 57 []
theorem lib57b_0 (K : Nat) : LibOk Tryz.prog (L57b_0 K) := libOk_mk (ents := [(68, [e68a K, e68b K])]) (bodies := []) (loops := []) order tiOk ⟨more_ent (e68a_ok K) (one_ent (e68b_ok K)), trivial⟩ trivial Tryz.func57 rfl lp57 trivial
noncomputable def implf57b (K : Nat) (x1 : Unit) : Option (Int) :=
  (ob (implf68b K x1) fun y1 => some (y1.2.2.1))
theorem q57b (K : Nat) (x1 : Unit) : evFnK (α := Int) (L57b_0 K) 3 57 Tryz.f57.results.toList (codeOf Tryz.f57) ins57b res57b (fun p => p.1) (x1, ()) = implf57b K x1 := by kernel_rfl
noncomputable def e57b (K : Nat) : Ent := ⟨ins57b, res57b, Int, fun x => implf57b K x.1, fun _ => (fun y => (y, (()))), false⟩
theorem e57b_ok (K : Nat) : EntOk Tryz.prog 57 (e57b K) := entOk_k (ins := ins57b) (rs := res57b) (α := Int) (lib57b_0 K) (d := 3) Tryz.func57 rfl (by kernel_rfl) (by kernel_rfl) (by kernel_rfl) (fun x => implf57b K x.1) (fun p => p.1) (fun y => (y, (()))) (fun _ => rfl) (fun x => q57b K x.1)

/-! (*diaphone/station.Station).Foggy -/
abbrev ins58a : Fs := [(.box (.dat (.pr (.pr (.int .i32) (.int .u32)) (.pr (.sl (.int .i64)) (.pr (.sl (.int .i64)) (.pr (.pr (.sl (.arr 2 (.int .i64))) (.sl (.int .i64))) (.pr (.int .i64) (.pr (.bool) (.pr (.int .i64) (.pr (.int .i64) (.pr (.int .i64) (.pr (.int .i64) (.pr (.int .i64) (.pr (.int .i64) (.pr (.int .i64) (.pr (.int .i64) (.pr (.int .i64) (.pr (.int .i64) (.sl (.str))))))))))))))))))), false)]
abbrev res58a : Sh := .dat (.int .i64)
theorem lp58 : loopsIn (codeOf Tryz.f58) 0 = [] := by kernel_rfl
noncomputable def L58a_0 (K : Nat) : Lib := mkLib ti [(68, [e68a K, e68b K])] [] 58 []
theorem lib58a_0 (K : Nat) : LibOk Tryz.prog (L58a_0 K) := libOk_mk (ents := [(68, [e68a K, e68b K])]) (bodies := []) (loops := []) order tiOk ⟨more_ent (e68a_ok K) (one_ent (e68b_ok K)), trivial⟩ trivial Tryz.func58 rfl lp58 trivial
noncomputable def implf58a (K : Nat) (x1 : STN) : Option (Int) :=
  (ob (implf68a K x1) fun y1 => some (y1.2.2.2.2.2.1))
theorem q58a (K : Nat) (x1 : STN) : evFnK (α := Int) (L58a_0 K) 3 58 Tryz.f58.results.toList (codeOf Tryz.f58) ins58a res58a (fun p => p.1) (x1, ()) = implf58a K x1 := by kernel_rfl
noncomputable def e58a (K : Nat) : Ent := ⟨ins58a, res58a, Int, fun x => implf58a K x.1, fun _ => (fun y => (y, (()))), false⟩
theorem e58a_ok (K : Nat) : EntOk Tryz.prog 58 (e58a K) := entOk_k (ins := ins58a) (rs := res58a) (α := Int) (lib58a_0 K) (d := 3) Tryz.func58 rfl (by kernel_rfl) (by kernel_rfl) (by kernel_rfl) (fun x => implf58a K x.1) (fun p => p.1) (fun y => (y, (()))) (fun _ => rfl) (fun x => q58a K x.1)

abbrev ins58b : Fs := [(.dat .np, false)]
abbrev res58b : Sh := .dat (.int .i64)
noncomputable def L58b_0 (K : Nat) : Lib := mkLib ti [(68, [e68a K, e68b K])] [] 58 []
theorem lib58b_0 (K : Nat) : LibOk Tryz.prog (L58b_0 K) := libOk_mk (ents := [(68, [e68a K, e68b K])]) (bodies := []) (loops := []) order tiOk ⟨more_ent (e68a_ok K) (one_ent (e68b_ok K)), trivial⟩ trivial Tryz.func58 rfl lp58 trivial
noncomputable def implf58b (K : Nat) (x1 : Unit) : Option (Int) :=
  (ob (implf68b K x1) fun y1 => some (y1.2.2.2.2.2.1))
theorem q58b (K : Nat) (x1 : Unit) : evFnK (α := Int) (L58b_0 K) 3 58 Tryz.f58.results.toList (codeOf Tryz.f58) ins58b res58b (fun p => p.1) (x1, ()) = implf58b K x1 := by kernel_rfl
noncomputable def e58b (K : Nat) : Ent := ⟨ins58b, res58b, Int, fun x => implf58b K x.1, fun _ => (fun y => (y, (()))), false⟩
theorem e58b_ok (K : Nat) : EntOk Tryz.prog 58 (e58b K) := entOk_k (ins := ins58b) (rs := res58b) (α := Int) (lib58b_0 K) (d := 3) Tryz.func58 rfl (by kernel_rfl) (by kernel_rfl) (by kernel_rfl) (fun x => implf58b K x.1) (fun p => p.1) (fun y => (y, (()))) (fun _ => rfl) (fun x => q58b K x.1)

/-! diaphone/diaphonelaw09.Balanced -/
abbrev ins39 : Fs := [(.box (.dat (.pr (.pr (.int .i32) (.int .u32)) (.pr (.sl (.int .i64)) (.pr (.sl (.int .i64)) (.pr (.pr (.sl (.arr 2 (.int .i64))) (.sl (.int .i64))) (.pr (.int .i64) (.pr (.bool) (.pr (.int .i64) (.pr (.int .i64) (.pr (.int .i64) (.pr (.int .i64) (.pr (.int .i64) (.pr (.int .i64) (.pr (.int .i64) (.pr (.int .i64) (.pr (.int .i64) (.pr (.int .i64) (.sl (.str))))))))))))))))))), false), (.dat (.pr (.sl (.int .i64)) (.pr (.sl (.int .i64)) (.pr (.sl (.arr 2 (.int .i64))) (.sl (.int .i64))))), false)]
abbrev res39 : Sh := .dat (.bool)
theorem lp39 : loopsIn (codeOf Tryz.f39) 0 = [] := by kernel_rfl
noncomputable def L39_0 (K : Nat) : Lib := mkLib ti [(33, [e33a K, e33b K]), (37, [e37a K, e37b K]), (38, [e38a K, e38b K]), (56, [e56a K, e56b K]), (57, [e57a K, e57b K]), (58, [e58a K, e58b K]), (59, [e59a K, e59b K])] [] 39 []
theorem lib39_0 (K : Nat) : LibOk Tryz.prog (L39_0 K) := libOk_mk (ents := [(33, [e33a K, e33b K]), (37, [e37a K, e37b K]), (38, [e38a K, e38b K]), (56, [e56a K, e56b K]), (57, [e57a K, e57b K]), (58, [e58a K, e58b K]), (59, [e59a K, e59b K])]) (bodies := []) (loops := []) order tiOk ⟨more_ent (e33a_ok K) (one_ent (e33b_ok K)), more_ent (e37a_ok K) (one_ent (e37b_ok K)), more_ent (e38a_ok K) (one_ent (e38b_ok K)), more_ent (e56a_ok K) (one_ent (e56b_ok K)), more_ent (e57a_ok K) (one_ent (e57b_ok K)), more_ent (e58a_ok K) (one_ent (e58b_ok K)), more_ent (e59a_ok K) (one_ent (e59b_ok K)), trivial⟩ trivial Tryz.func39 rfl lp39 trivial
noncomputable def implf39 (K : Nat) (x1 : STN) (x2 : KIT) : Option (Bool) :=
  (ob (implf58a K x1) fun y1 => (ob (implf56a K x1) fun y2 => (bif decide (y1 ≤ y2) then (ob (implf38a K x1) fun y3 => (ob (implf59a K x1) fun y4 => (ob (implf56a K x1) fun y5 => (bif decide (IntKind.i64.wrap (y3 + y4) ≤ y5) then (ob (implf58a K x1) fun y6 => (bif decide (y6 ≥ (0 : Int)) then (ob (implf38a K x1) fun y7 => (bif decide (y7 ≥ (0 : Int)) then (ob (implf59a K x1) fun y8 => (bif decide (y8 ≥ (0 : Int)) then (ob (implf37a K x1) fun y9 => (bif decide (y9 ≥ (0 : Int)) then (ob (implf37a K x1) fun y10 => (bif decide (y10 ≤ (500 : Int)) then (ob (implf33a K x1) fun y11 => (bif decide (y11 ≥ (0 : Int)) then (ob (implf33a K x1) fun y12 => (bif decide (y12 ≤ (500 : Int)) then (ob (implf57a K x1) fun y13 => (bif decide (y13 ≥ (0 : Int)) then (ob (implf57a K x1) fun y14 => some (decide (y14 < (↑x2.2.2.2.length : Int)))) else some (false))) else some (false))) else some (false))) else some (false))) else some (false))) else some (false))) else some (false))) else some (false))) else some (false))))) else some (false))))
theorem q39 (K : Nat) (x1 : STN) (x2 : KIT) : evFnK (α := Bool) (L39_0 K) 3 39 Tryz.f39.results.toList (codeOf Tryz.f39) ins39 res39 (fun p => p.1) (x1, x2, ()) = implf39 K x1 x2 := by kernel_rfl
noncomputable def e39 (K : Nat) : Ent := ⟨ins39, res39, Bool, fun x => implf39 K x.1 x.2.1, fun _ => (fun y => (y, (()))), false⟩
theorem e39_ok (K : Nat) : EntOk Tryz.prog 39 (e39 K) := entOk_k (ins := ins39) (rs := res39) (α := Bool) (lib39_0 K) (d := 3) Tryz.func39 rfl (by kernel_rfl) (by kernel_rfl) (by kernel_rfl) (fun x => implf39 K x.1 x.2.1) (fun p => p.1) (fun y => (y, (()))) (fun _ => rfl) (fun x => q39 K x.1 x.2.1)

/-! diaphone/diaphoneref09.Sum -/
abbrev ins47 : Fs := [(.dat (.int .i64), false), (.dat (.str), false)]
abbrev res47 : Sh := .dat (.int .i64)
theorem lp47 : loopsIn (codeOf Tryz.f47) 0 = [(0, loopOf 0 (codeOf Tryz.f47))] := by kernel_rfl
noncomputable def L47_0 (K : Nat) : Lib := mkLib ti [] [] 47 []
theorem lib47_0 (K : Nat) : LibOk Tryz.prog (L47_0 K) := libOk_mk (ents := []) (bodies := []) (loops := []) order tiOk trivial trivial Tryz.func47 rfl lp47 ⟨no_lent, trivial⟩
abbrev i47_0 : Fs := [(.dat (.str), false), (.dat (.int Go.IntKind.i64), true), (.dat (.int Go.IntKind.i64), true)]
noncomputable def implb47_0 (K : Nat) (rc : ByteArray → Int → Int → Option (Int × Int × Unit)) (x1 : ByteArray) (x2 : Int) (x3 : Int) : Option (Int × Int × Unit) :=
  (bif decide (x3 < (↑x1.size : Int)) then (if (0 : Int) ≤ x3 ∧ x3 < (↑x1.size : Int) then (rc x1 ((IntKind.i64.wrap (IntKind.i64.wrap (IntKind.i64.wrap (x2 * (257 : Int)) + IntKind.i64.wrap (bt x1 x3)) + (1 : Int))).tmod (1000003 : Int)) (IntKind.i64.wrap (x3 + (1 : Int)))) else none) else some ((x2, x3, ())))
noncomputable def impll47_0 (K : Nat) : Nat → ByteArray → Int → Int → Option (Int × Int × Unit)
  | 0, _, _, _ => none
  | k + 1, x1, x2, x3 => implb47_0 K (impll47_0 K k) x1 x2 x3
noncomputable def n47_0 (K : Nat) : Lent := ⟨[1, 5, 6], i47_0, [11, 12, 13, 14, 17, 18, 19, 20, 21, 22, 23, 24, 25, 15, 16], [0], false, res47, fun x => impll47_0 K K x.1 x.2.1 x.2.2.1, [], none⟩
theorem q47_0 (K : Nat) (rc : ByteArray → Int → Int → Option (Int × Int × Unit)) (x1 : ByteArray) (x2 : Int) (x3 : Int) : evLoop (L47_0 K) 3 47 Tryz.f47.results.toList (loopOf 0 (codeOf Tryz.f47)) 0 [1, 5, 6] [] i47_0 [0] false res47 (fun x => rc x.1 x.2.1 x.2.2.1) (x1, x2, x3, ()) = implb47_0 K rc x1 x2 x3 := by kernel_rfl
theorem lp47_0 : loopsIn (loopOf 0 (codeOf Tryz.f47)) 0 = [] := by kernel_rfl
theorem n47_0_ok (K : Nat) : LentOk Tryz.prog Tryz.f47 (loopOf 0 (codeOf Tryz.f47)) (n47_0 K) := lentOk_k (slots := [1, 5, 6]) (ali := []) (ins := i47_0) (writes := [11, 12, 13, 14, 17, 18, 19, 20, 21, 22, 23, 24, 25, 15, 16]) (exits := [0]) (rets := false) (rs := res47) (d := 3) (lib47_0 K) lp47_0 trivial (by kernel_rfl) (by kernel_rfl) (by kernel_rfl) (by kernel_rfl) (by kernel_rfl) (fun k x => impll47_0 K k x.1 x.2.1 x.2.2.1) (fun _ => rfl) (fun k x => q47_0 K (impll47_0 K k) x.1 x.2.1 x.2.2.1) K
noncomputable def L47_1 (K : Nat) : Lib := mkLib ti [] [] 47 [(0, [n47_0 K])]
theorem lib47_1 (K : Nat) : LibOk Tryz.prog (L47_1 K) := libOk_mk (ents := []) (bodies := []) (loops := [(0, [n47_0 K])]) order tiOk trivial trivial Tryz.func47 rfl lp47 ⟨one_lent (n47_0_ok K), trivial⟩
noncomputable def implf47 (K : Nat) (x1 : Int) (x2 : ByteArray) : Option (Int) :=
  (ob (impll47_0 K K x2 ((IntKind.i64.wrap (x1.tmod (1000003 : Int) + (1000003 : Int))).tmod (1000003 : Int)) ((0 : Int))) fun y1 => some (y1.1))
theorem q47 (K : Nat) (x1 : Int) (x2 : ByteArray) : evFnK (α := Int) (L47_1 K) 3 47 Tryz.f47.results.toList (codeOf Tryz.f47) ins47 res47 (fun p => p.1) (x1, x2, ()) = implf47 K x1 x2 := by kernel_rfl
noncomputable def e47 (K : Nat) : Ent := ⟨ins47, res47, Int, fun x => implf47 K x.1 x.2.1, fun _ => (fun y => (y, (()))), false⟩
theorem e47_ok (K : Nat) : EntOk Tryz.prog 47 (e47 K) := entOk_k (ins := ins47) (rs := res47) (α := Int) (lib47_1 K) (d := 3) Tryz.func47 rfl (by kernel_rfl) (by kernel_rfl) (by kernel_rfl) (fun x => implf47 K x.1 x.2.1) (fun p => p.1) (fun y => (y, (()))) (fun _ => rfl) (fun x => q47 K x.1 x.2.1)

/-! (*diaphone/station.Station).Fog -/
abbrev ins60a : Fs := [(.box (.dat (.pr (.pr (.int .i32) (.int .u32)) (.pr (.sl (.int .i64)) (.pr (.sl (.int .i64)) (.pr (.pr (.sl (.arr 2 (.int .i64))) (.sl (.int .i64))) (.pr (.int .i64) (.pr (.bool) (.pr (.int .i64) (.pr (.int .i64) (.pr (.int .i64) (.pr (.int .i64) (.pr (.int .i64) (.pr (.int .i64) (.pr (.int .i64) (.pr (.int .i64) (.pr (.int .i64) (.pr (.int .i64) (.sl (.str))))))))))))))))))), false)]
abbrev res60a : Sh := .dat (.bool)
theorem lp60 : loopsIn (codeOf Tryz.f60) 0 = [] := by kernel_rfl
noncomputable def L60a_0 (K : Nat) : Lib := mkLib ti [(68, [e68a K, e68b K])] [] 60 []
theorem lib60a_0 (K : Nat) : LibOk Tryz.prog (L60a_0 K) := libOk_mk (ents := [(68, [e68a K, e68b K])]) (bodies := []) (loops := []) order tiOk ⟨more_ent (e68a_ok K) (one_ent (e68b_ok K)), trivial⟩ trivial Tryz.func60 rfl lp60 trivial
noncomputable def implf60a (K : Nat) (x1 : STN) : Option (Bool) :=
  (ob (implf68a K x1) fun y1 => some (y1.2.1))
theorem q60a (K : Nat) (x1 : STN) : evFnK (α := Bool) (L60a_0 K) 3 60 Tryz.f60.results.toList (codeOf Tryz.f60) ins60a res60a (fun p => p.1) (x1, ()) = implf60a K x1 := by kernel_rfl
noncomputable def e60a (K : Nat) : Ent := ⟨ins60a, res60a, Bool, fun x => implf60a K x.1, fun _ => (fun y => (y, (()))), false⟩
theorem e60a_ok (K : Nat) : EntOk Tryz.prog 60 (e60a K) := entOk_k (ins := ins60a) (rs := res60a) (α := Bool) (lib60a_0 K) (d := 3) Tryz.func60 rfl (by kernel_rfl) (by kernel_rfl) (by kernel_rfl) (fun x => implf60a K x.1) (fun p => p.1) (fun y => (y, (()))) (fun _ => rfl) (fun x => q60a K x.1)

abbrev ins60b : Fs := [(.dat .np, false)]
abbrev res60b : Sh := .dat (.bool)
noncomputable def L60b_0 (K : Nat) : Lib := mkLib ti [(68, [e68a K, e68b K])] [] 60 []
theorem lib60b_0 (K : Nat) : LibOk Tryz.prog (L60b_0 K) := libOk_mk (ents := [(68, [e68a K, e68b K])]) (bodies := []) (loops := []) order tiOk ⟨more_ent (e68a_ok K) (one_ent (e68b_ok K)), trivial⟩ trivial Tryz.func60 rfl lp60 trivial
noncomputable def implf60b (K : Nat) (x1 : Unit) : Option (Bool) :=
  (ob (implf68b K x1) fun y1 => some (y1.2.1))
theorem q60b (K : Nat) (x1 : Unit) : evFnK (α := Bool) (L60b_0 K) 3 60 Tryz.f60.results.toList (codeOf Tryz.f60) ins60b res60b (fun p => p.1) (x1, ()) = implf60b K x1 := by kernel_rfl
noncomputable def e60b (K : Nat) : Ent := ⟨ins60b, res60b, Bool, fun x => implf60b K x.1, fun _ => (fun y => (y, (()))), false⟩
theorem e60b_ok (K : Nat) : EntOk Tryz.prog 60 (e60b K) := entOk_k (ins := ins60b) (rs := res60b) (α := Bool) (lib60b_0 K) (d := 3) Tryz.func60 rfl (by kernel_rfl) (by kernel_rfl) (by kernel_rfl) (fun x => implf60b K x.1) (fun p => p.1) (fun y => (y, (()))) (fun _ => rfl) (fun x => q60b K x.1)

/-! diaphone/station.Run -/
abbrev ins42 : Fs := [(.dat (.sl (.int .i64)), false), (.dat (.sl (.int .i64)), false), (.dat (.pr (.sl (.arr 2 (.int .i64))) (.sl (.int .i64))), false), (.dat (.sl (.str)), false)]
abbrev res42 : Sh := .cons (.own (.int .i64)) (.cons (.dat (.str)) (.cons (.dat (.int .i64)) (.un)))
theorem lp42 : loopsIn (codeOf Tryz.f42) 0 = [(0, loopOf 0 (codeOf Tryz.f42))] := by kernel_rfl
noncomputable def L42_0 (K : Nat) : Lib := mkLibR ti [(21, [e21a K, e21b K]), (31, [e31a K, e31b K]), (50, [e50a K, e50b K])] [] 42 [] [] [] [] [50]
theorem lib42_0 (K : Nat) : LibOk Tryz.prog (L42_0 K) := libOk_mkR (ents := [(21, [e21a K, e21b K]), (31, [e31a K, e31b K]), (50, [e50a K, e50b K])]) (bodies := []) (loops := []) order tiOk ⟨more_ent (e21a_ok K) (one_ent (e21b_ok K)), more_ent (e31a_ok K) (one_ent (e31b_ok K)), more_ent (e50a_ok K) (one_ent (e50b_ok K)), trivial⟩ trivial Tryz.func42 rfl lp42 ⟨no_lent, trivial⟩ (rngs := []) trivial (frz := []) (opts := []) trivial
abbrev i42_0 : Fs := [(.box (.dat (.pr (.pr (.int Go.IntKind.i32) (.int Go.IntKind.u32)) (.pr (.sl (.int Go.IntKind.i64)) (.pr (.sl (.int Go.IntKind.i64)) (.pr (.pr (.sl (.arr 2 (.int Go.IntKind.i64))) (.sl (.int Go.IntKind.i64))) (.pr (.int Go.IntKind.i64) (.pr (.bool) (.pr (.int Go.IntKind.i64) (.pr (.int Go.IntKind.i64) (.pr (.int Go.IntKind.i64) (.pr (.int Go.IntKind.i64) (.pr (.int Go.IntKind.i64) (.pr (.int Go.IntKind.i64) (.pr (.int Go.IntKind.i64) (.pr (.int Go.IntKind.i64) (.pr (.int Go.IntKind.i64) (.pr (.int Go.IntKind.i64) (.sl (.str))))))))))))))))))), true), (.own (.int .i64), true), (.dat (.sl (.str)), false), (.dat (.int Go.IntKind.i64), false), (.dat (.int Go.IntKind.i64), true)]
noncomputable def implb42_0 (K : Nat) (rc : STN → (List Int) → (List ByteArray) → Int → Int → Option (STN × (List Int) × Int × Unit)) (x1 : STN) (x2 : (List Int)) (x3 : (List ByteArray)) (x4 : Int) (x5 : Int) : Option (STN × (List Int) × Int × Unit) :=
  (bif decide (x5 < x4) then (if (0 : Int) ≤ x5 ∧ x5 < (↑x3.length : Int) then (ob (implf31a K x1 (x3.getD x5.toNat ByteArray.empty)) fun y1 => (if (x2.length + ((List.replicate 1 ((0 : Int))).set 0 y1.1).length) * 8 ≤ 140737488355328 then (rc y1.2 (x2 ++ (List.replicate 1 ((0 : Int))).set 0 y1.1) x3 x4 (IntKind.i64.wrap (x5 + (1 : Int)))) else none)) else none) else some ((x1, x2, x5, ())))
noncomputable def impll42_0 (K : Nat) : Nat → STN → (List Int) → (List ByteArray) → Int → Int → Option (STN × (List Int) × Int × Unit)
  | 0, _, _, _, _, _ => none
  | k + 1, x1, x2, x3, x4, x5 => implb42_0 K (impll42_0 K k) x1 x2 x3 x4 x5
noncomputable def n42_0 (K : Nat) : Lent := ⟨[11, 13, 29, 30, 31], i42_0, [32, 33, 34, 15, 35, 36, 37, 38, 39, 40, 41], [0], false, res42, fun x => impll42_0 K K x.1 x.2.1 x.2.2.1 x.2.2.2.1 x.2.2.2.2.1, [], none⟩
theorem q42_0 (K : Nat) (rc : STN → (List Int) → (List ByteArray) → Int → Int → Option (STN × (List Int) × Int × Unit)) (x1 : STN) (x2 : (List Int)) (x3 : (List ByteArray)) (x4 : Int) (x5 : Int) : evLoop (L42_0 K) 3 42 Tryz.f42.results.toList (loopOf 0 (codeOf Tryz.f42)) 0 [11, 13, 29, 30, 31] [] i42_0 [0] false res42 (fun x => rc x.1 x.2.1 x.2.2.1 x.2.2.2.1 x.2.2.2.2.1) (x1, x2, x3, x4, x5, ()) = implb42_0 K rc x1 x2 x3 x4 x5 := by kernel_rfl
theorem lp42_0 : loopsIn (loopOf 0 (codeOf Tryz.f42)) 0 = [] := by kernel_rfl
theorem n42_0_ok (K : Nat) : LentOk Tryz.prog Tryz.f42 (loopOf 0 (codeOf Tryz.f42)) (n42_0 K) := lentOk_kR (slots := [11, 13, 29, 30, 31]) (ali := []) (ins := i42_0) (writes := [32, 33, 34, 15, 35, 36, 37, 38, 39, 40, 41]) (exits := [0]) (rets := false) (rs := res42) (d := 3) (lib42_0 K) Tryz.func42 rfl (.inl (by kernel_rfl)) lp42_0 trivial (by kernel_rfl) (by kernel_rfl) (by kernel_rfl) (by kernel_rfl) (by kernel_rfl) (fun k x => impll42_0 K k x.1 x.2.1 x.2.2.1 x.2.2.2.1 x.2.2.2.2.1) (fun _ => rfl) (fun k x => q42_0 K (impll42_0 K k) x.1 x.2.1 x.2.2.1 x.2.2.2.1 x.2.2.2.2.1) K
noncomputable def L42_1 (K : Nat) : Lib := mkLibR ti [(21, [e21a K, e21b K]), (31, [e31a K, e31b K]), (50, [e50a K, e50b K])] [] 42 [(0, [n42_0 K])] [] [] [] [50]
theorem lib42_1 (K : Nat) : LibOk Tryz.prog (L42_1 K) := libOk_mkR (ents := [(21, [e21a K, e21b K]), (31, [e31a K, e31b K]), (50, [e50a K, e50b K])]) (bodies := []) (loops := [(0, [n42_0 K])]) order tiOk ⟨more_ent (e21a_ok K) (one_ent (e21b_ok K)), more_ent (e31a_ok K) (one_ent (e31b_ok K)), more_ent (e50a_ok K) (one_ent (e50b_ok K)), trivial⟩ trivial Tryz.func42 rfl lp42 ⟨one_lent (n42_0_ok K), trivial⟩ (rngs := []) trivial (frz := []) (opts := []) trivial
noncomputable def implf42 (K : Nat) (x1 : (List Int)) (x2 : (List Int)) (x3 : BOX) (x4 : (List ByteArray)) : Option ((List Int) × ByteArray × Int) :=
  (oel (implf50a K x1 x2 x3) (ob (implf50b K x1 x2 x3) fun y1 => (bif y1.2 != (0 : Int) then some (([], ByteArray.mk #[], y1.2)) else (bif decide ((↑x4.length : Int) > (100 : Int)) then some (([], ByteArray.mk #[], (3 : Int))) else (ob (impll42_0 K K y1.1 [] x4 ((↑x4.length : Int)) ((0 : Int))) fun y2 => (ob (implf21a K y2.1) fun y3 => some ((y2.2.1, y3, (0 : Int)))))))) fun y4 => (bif y4.2 != (0 : Int) then some (([], ByteArray.mk #[], y4.2)) else (bif decide ((↑x4.length : Int) > (100 : Int)) then some (([], ByteArray.mk #[], (3 : Int))) else none)))
theorem q42 (K : Nat) (x1 : (List Int)) (x2 : (List Int)) (x3 : BOX) (x4 : (List ByteArray)) : evFnK (α := (List Int) × ByteArray × Int) (L42_1 K) 3 42 Tryz.f42.results.toList (codeOf Tryz.f42) ins42 res42 (fun p => (p.1.1, p.1.2.1, p.1.2.2.1)) (x1, x2, x3, x4, ()) = implf42 K x1 x2 x3 x4 := by kernel_rfl
noncomputable def e42 (K : Nat) : Ent := ⟨ins42, res42, (List Int) × ByteArray × Int, fun x => implf42 K x.1 x.2.1 x.2.2.1 x.2.2.2.1, fun _ => (fun y => ((y.1, y.2.1, y.2.2, ()), (()))), false⟩
theorem e42_ok (K : Nat) : EntOk Tryz.prog 42 (e42 K) := entOk_k (ins := ins42) (rs := res42) (α := (List Int) × ByteArray × Int) (lib42_1 K) (d := 3) Tryz.func42 rfl (by kernel_rfl) (by kernel_rfl) (by kernel_rfl) (fun x => implf42 K x.1 x.2.1 x.2.2.1 x.2.2.2.1) (fun p => (p.1.1, p.1.2.1, p.1.2.2.1)) (fun y => ((y.1, y.2.1, y.2.2, ()), (()))) (fun _ => rfl) (fun x => q42 K x.1 x.2.1 x.2.2.1 x.2.2.2.1)

/-! diaphone/diaphoneref09.Right -/
abbrev ins84 : Fs := [(.dat (.str), false)]
abbrev res84 : Sh := .dat (.bool)
theorem lp84 : loopsIn (codeOf Tryz.f84) 0 = [(0, loopOf 0 (codeOf Tryz.f84))] := by kernel_rfl
noncomputable def L84_0 (K : Nat) : Lib := mkLib ti [] [] 84 []
theorem lib84_0 (K : Nat) : LibOk Tryz.prog (L84_0 K) := libOk_mk (ents := []) (bodies := []) (loops := []) order tiOk trivial trivial Tryz.func84 rfl lp84 ⟨no_lent, trivial⟩
abbrev i84_0 : Fs := [(.dat (.str), false), (.dat (.int Go.IntKind.i64), true)]
noncomputable def implb84_0 (K : Nat) (rc : ByteArray → Int → Option (Sum (Int × Unit) Bool)) (x1 : ByteArray) (x2 : Int) : Option (Sum (Int × Unit) Bool) :=
  (bif decide (x2 < (↑x1.size : Int)) then (if (0 : Int) ≤ x2 ∧ x2 < (↑x1.size : Int) then (bif bt x1 x2 == (10 : Int) then some (Sum.inr false) else (rc x1 (IntKind.i64.wrap (x2 + (1 : Int))))) else none) else some (Sum.inl (x2, ())))
noncomputable def impll84_0 (K : Nat) : Nat → ByteArray → Int → Option (Sum (Int × Unit) Bool)
  | 0, _, _ => none
  | k + 1, x1, x2 => implb84_0 K (impll84_0 K k) x1 x2
noncomputable def n84_0 (K : Nat) : Lent := ⟨[0, 3], i84_0, [4, 5, 6, 7, 10, 11, 12, 13, 2, 8, 9], [0], true, res84, fun x => impll84_0 K K x.1 x.2.1, [], none⟩
theorem q84_0 (K : Nat) (rc : ByteArray → Int → Option (Sum (Int × Unit) Bool)) (x1 : ByteArray) (x2 : Int) : evLoop (L84_0 K) 3 84 Tryz.f84.results.toList (loopOf 0 (codeOf Tryz.f84)) 0 [0, 3] [] i84_0 [0] true res84 (fun x => rc x.1 x.2.1) (x1, x2, ()) = implb84_0 K rc x1 x2 := by kernel_rfl
theorem lp84_0 : loopsIn (loopOf 0 (codeOf Tryz.f84)) 0 = [] := by kernel_rfl
theorem n84_0_ok (K : Nat) : LentOk Tryz.prog Tryz.f84 (loopOf 0 (codeOf Tryz.f84)) (n84_0 K) := lentOk_k (slots := [0, 3]) (ali := []) (ins := i84_0) (writes := [4, 5, 6, 7, 10, 11, 12, 13, 2, 8, 9]) (exits := [0]) (rets := true) (rs := res84) (d := 3) (lib84_0 K) lp84_0 trivial (by kernel_rfl) (by kernel_rfl) (by kernel_rfl) (by kernel_rfl) (by kernel_rfl) (fun k x => impll84_0 K k x.1 x.2.1) (fun _ => rfl) (fun k x => q84_0 K (impll84_0 K k) x.1 x.2.1) K
noncomputable def L84_1 (K : Nat) : Lib := mkLib ti [] [] 84 [(0, [n84_0 K])]
theorem lib84_1 (K : Nat) : LibOk Tryz.prog (L84_1 K) := libOk_mk (ents := []) (bodies := []) (loops := [(0, [n84_0 K])]) order tiOk trivial trivial Tryz.func84 rfl lp84 ⟨one_lent (n84_0_ok K), trivial⟩
noncomputable def implf84 (K : Nat) (x1 : ByteArray) : Option (Bool) :=
  (ob (impll84_0 K K x1 ((0 : Int))) fun y1 => (match y1 with | .inl y2 => (bif decide ((↑x1.size : Int) ≥ (1 : Int)) then some (decide ((↑x1.size : Int) ≤ (40 : Int))) else some (false)) | .inr y2 => some (y2)))
theorem q84 (K : Nat) (x1 : ByteArray) : evFnK (α := Bool) (L84_1 K) 3 84 Tryz.f84.results.toList (codeOf Tryz.f84) ins84 res84 (fun p => p.1) (x1, ()) = implf84 K x1 := by kernel_rfl
noncomputable def e84 (K : Nat) : Ent := ⟨ins84, res84, Bool, fun x => implf84 K x.1, fun _ => (fun y => (y, (()))), false⟩
theorem e84_ok (K : Nat) : EntOk Tryz.prog 84 (e84 K) := entOk_k (ins := ins84) (rs := res84) (α := Bool) (lib84_1 K) (d := 3) Tryz.func84 rfl (by kernel_rfl) (by kernel_rfl) (by kernel_rfl) (fun x => implf84 K x.1) (fun p => p.1) (fun y => (y, (()))) (fun _ => rfl) (fun x => q84 K x.1)

/-! diaphone/diaphoneref09.Read -/
abbrev ins44 : Fs := [(.dat (.str), false)]
abbrev res44 : Sh := .cons (.dat (.sl (.str))) (.cons (.dat (.str)) (.un))
theorem lp44 : loopsIn (codeOf Tryz.f44) 0 = [(0, loopOf 0 (codeOf Tryz.f44)), (2, loopOf 2 (codeOf Tryz.f44)), (4, loopOf 4 (codeOf Tryz.f44))] := by kernel_rfl
noncomputable def L44_0 (K : Nat) : Lib := mkLib ti [(47, [e47 K]), (84, [e84 K]), (85, [e85 K])] [] 44 []
theorem lib44_0 (K : Nat) : LibOk Tryz.prog (L44_0 K) := libOk_mk (ents := [(47, [e47 K]), (84, [e84 K]), (85, [e85 K])]) (bodies := []) (loops := []) order tiOk ⟨one_ent (e47_ok K), one_ent (e84_ok K), one_ent (e85_ok K), trivial⟩ trivial Tryz.func44 rfl lp44 ⟨no_lent, no_lent, no_lent, trivial⟩
abbrev i44_0 : Fs := [(.dat (.str), true), (.own (.str), true), (.dat (.int Go.IntKind.i64), true)]
abbrev i44_2 : Fs := [(.dat (.str), false), (.own (.str), false), (.dat (.int Go.IntKind.i64), false), (.dat (.int Go.IntKind.i64), false), (.dat (.int Go.IntKind.i64), true)]
noncomputable def implb44_2 (K : Nat) (rc : ByteArray → (List ByteArray) → Int → Int → Int → Option (Int × Unit)) (x1 : ByteArray) (x2 : (List ByteArray)) (x3 : Int) (x4 : Int) (x5 : Int) : Option (Int × Unit) :=
  (bif decide (x5 < (↑x1.size : Int)) then (if (0 : Int) ≤ x5 ∧ x5 < (↑x1.size : Int) then (bif bt x1 x5 != (10 : Int) then (rc x1 x2 x3 x4 (IntKind.i64.wrap (x5 + (1 : Int)))) else some ((x5, ()))) else none) else some ((x5, ())))
noncomputable def impll44_2 (K : Nat) : Nat → ByteArray → (List ByteArray) → Int → Int → Int → Option (Int × Unit)
  | 0, _, _, _, _, _ => none
  | k + 1, x1, x2, x3, x4, x5 => implb44_2 K (impll44_2 K k) x1 x2 x3 x4 x5
noncomputable def n44_2 (K : Nat) : Lent := ⟨[0, 4, 5, 6, 7], i44_2, [12, 13, 14, 15, 16, 17, 18, 19, 20, 21, 22, 23], [2], false, res44, fun x => impll44_2 K K x.1 x.2.1 x.2.2.1 x.2.2.2.1 x.2.2.2.2.1, [], none⟩
theorem q44_2 (K : Nat) (rc : ByteArray → (List ByteArray) → Int → Int → Int → Option (Int × Unit)) (x1 : ByteArray) (x2 : (List ByteArray)) (x3 : Int) (x4 : Int) (x5 : Int) : evLoop (L44_0 K) 3 44 Tryz.f44.results.toList (loopOf 2 (codeOf Tryz.f44)) 2 [0, 4, 5, 6, 7] [] i44_2 [2] false res44 (fun x => rc x.1 x.2.1 x.2.2.1 x.2.2.2.1 x.2.2.2.2.1) (x1, x2, x3, x4, x5, ()) = implb44_2 K rc x1 x2 x3 x4 x5 := by kernel_rfl
theorem lp44_2 : loopsIn (loopOf 2 (codeOf Tryz.f44)) 2 = [] := by kernel_rfl
theorem n44_2_ok (K : Nat) : LentOk Tryz.prog Tryz.f44 (loopOf 2 (codeOf Tryz.f44)) (n44_2 K) := lentOk_k (slots := [0, 4, 5, 6, 7]) (ali := []) (ins := i44_2) (writes := [12, 13, 14, 15, 16, 17, 18, 19, 20, 21, 22, 23]) (exits := [2]) (rets := false) (rs := res44) (d := 3) (lib44_0 K) lp44_2 trivial (by kernel_rfl) (by kernel_rfl) (by kernel_rfl) (by kernel_rfl) (by kernel_rfl) (fun k x => impll44_2 K k x.1 x.2.1 x.2.2.1 x.2.2.2.1 x.2.2.2.2.1) (fun _ => rfl) (fun k x => q44_2 K (impll44_2 K k) x.1 x.2.1 x.2.2.1 x.2.2.2.1 x.2.2.2.2.1) K
noncomputable def L44_1 (K : Nat) : Lib := mkLib ti [(47, [e47 K]), (84, [e84 K]), (85, [e85 K])] [] 44 [(2, [n44_2 K])]
theorem lib44_1 (K : Nat) : LibOk Tryz.prog (L44_1 K) := libOk_mk (ents := [(47, [e47 K]), (84, [e84 K]), (85, [e85 K])]) (bodies := []) (loops := [(2, [n44_2 K])]) order tiOk ⟨one_ent (e47_ok K), one_ent (e84_ok K), one_ent (e85_ok K), trivial⟩ trivial Tryz.func44 rfl lp44 ⟨no_lent, one_lent (n44_2_ok K), no_lent, trivial⟩
abbrev i44_4 : Fs := [(.dat (.str), false), (.own (.str), false), (.dat (.int Go.IntKind.i64), false), (.dat (.int Go.IntKind.i64), true), (.dat (.int Go.IntKind.i64), false)]
noncomputable def implb44_4 (K : Nat) (rc : ByteArray → (List ByteArray) → Int → Int → Int → Option (Int × Unit)) (x1 : ByteArray) (x2 : (List ByteArray)) (x3 : Int) (x4 : Int) (x5 : Int) : Option (Int × Unit) :=
  (bif decide (x4 < x5) then (if (0 : Int) ≤ x4 ∧ x4 < (↑x1.size : Int) then (bif bt x1 x4 != (32 : Int) then (rc x1 x2 x3 (IntKind.i64.wrap (x4 + (1 : Int))) x5) else some ((x4, ()))) else none) else some ((x4, ())))
noncomputable def impll44_4 (K : Nat) : Nat → ByteArray → (List ByteArray) → Int → Int → Int → Option (Int × Unit)
  | 0, _, _, _, _, _ => none
  | k + 1, x1, x2, x3, x4, x5 => implb44_4 K (impll44_4 K k) x1 x2 x3 x4 x5
noncomputable def n44_4 (K : Nat) : Lent := ⟨[0, 4, 5, 6, 7], i44_4, [24, 25, 26, 27, 28, 29, 30, 31, 32, 33, 34], [4], false, res44, fun x => impll44_4 K K x.1 x.2.1 x.2.2.1 x.2.2.2.1 x.2.2.2.2.1, [], none⟩
theorem q44_4 (K : Nat) (rc : ByteArray → (List ByteArray) → Int → Int → Int → Option (Int × Unit)) (x1 : ByteArray) (x2 : (List ByteArray)) (x3 : Int) (x4 : Int) (x5 : Int) : evLoop (L44_1 K) 3 44 Tryz.f44.results.toList (loopOf 4 (codeOf Tryz.f44)) 4 [0, 4, 5, 6, 7] [] i44_4 [4] false res44 (fun x => rc x.1 x.2.1 x.2.2.1 x.2.2.2.1 x.2.2.2.2.1) (x1, x2, x3, x4, x5, ()) = implb44_4 K rc x1 x2 x3 x4 x5 := by kernel_rfl
theorem lp44_4 : loopsIn (loopOf 4 (codeOf Tryz.f44)) 4 = [] := by kernel_rfl
theorem n44_4_ok (K : Nat) : LentOk Tryz.prog Tryz.f44 (loopOf 4 (codeOf Tryz.f44)) (n44_4 K) := lentOk_k (slots := [0, 4, 5, 6, 7]) (ali := []) (ins := i44_4) (writes := [24, 25, 26, 27, 28, 29, 30, 31, 32, 33, 34]) (exits := [4]) (rets := false) (rs := res44) (d := 3) (lib44_1 K) lp44_4 trivial (by kernel_rfl) (by kernel_rfl) (by kernel_rfl) (by kernel_rfl) (by kernel_rfl) (fun k x => impll44_4 K k x.1 x.2.1 x.2.2.1 x.2.2.2.1 x.2.2.2.2.1) (fun _ => rfl) (fun k x => q44_4 K (impll44_4 K k) x.1 x.2.1 x.2.2.1 x.2.2.2.1 x.2.2.2.2.1) K
noncomputable def L44_2 (K : Nat) : Lib := mkLib ti [(47, [e47 K]), (84, [e84 K]), (85, [e85 K])] [] 44 [(2, [n44_2 K]), (4, [n44_4 K])]
theorem lib44_2 (K : Nat) : LibOk Tryz.prog (L44_2 K) := libOk_mk (ents := [(47, [e47 K]), (84, [e84 K]), (85, [e85 K])]) (bodies := []) (loops := [(2, [n44_2 K]), (4, [n44_4 K])]) order tiOk ⟨one_ent (e47_ok K), one_ent (e84_ok K), one_ent (e85_ok K), trivial⟩ trivial Tryz.func44 rfl lp44 ⟨no_lent, one_lent (n44_2_ok K), one_lent (n44_4_ok K), trivial⟩
noncomputable def implb44_0 (K : Nat) (rc : ByteArray → (List ByteArray) → Int → Option (ByteArray × (List ByteArray) × Int × Unit)) (x1 : ByteArray) (x2 : (List ByteArray)) (x3 : Int) : Option (ByteArray × (List ByteArray) × Int × Unit) :=
  (bif decide ((↑x2.length : Int) < (100 : Int)) then (ob (impll44_2 K K x1 x2 x3 ((0 : Int)) ((0 : Int))) fun y1 => (ob (impll44_4 K K x1 x2 x3 ((0 : Int)) y1.1) fun y2 => (bif y1.1 == (↑x1.size : Int) then some ((x1, x2, x3, ())) else (bif y2.1 == y1.1 then some ((x1, x2, x3, ())) else (if (0 : Int) ≤ IntKind.i64.wrap (y2.1 + (1 : Int)) ∧ IntKind.i64.wrap (y2.1 + (1 : Int)) ≤ y1.1 ∧ y1.1 ≤ (↑x1.size : Int) then (ob (implf84 K (x1.extract (IntKind.i64.wrap (y2.1 + (1 : Int))).toNat y1.1.toNat)) fun y3 => (bif !y3 then some ((x1, x2, x3, ())) else (if (0 : Int) ≤ IntKind.i64.wrap (y2.1 + (1 : Int)) ∧ IntKind.i64.wrap (y2.1 + (1 : Int)) ≤ y1.1 ∧ y1.1 ≤ (↑x1.size : Int) then (ob (implf47 K x3 (x1.extract (IntKind.i64.wrap (y2.1 + (1 : Int))).toNat y1.1.toNat)) fun y4 => (ob (implf85 K y4) fun y5 => (if (0 : Int) ≤ (0 : Int) ∧ (0 : Int) ≤ y2.1 ∧ y2.1 ≤ (↑x1.size : Int) then (bif !y5.toList == (x1.extract (0) y2.1.toNat).toList then some ((x1, x2, x3, ())) else (ob (implf47 K x3 (x1.extract (IntKind.i64.wrap (y2.1 + (1 : Int))).toNat y1.1.toNat)) fun y6 => (if (x2.length + ((List.replicate 1 ByteArray.empty).set 0 (x1.extract (IntKind.i64.wrap (y2.1 + (1 : Int))).toNat y1.1.toNat)).length) * 16 ≤ 140737488355328 then (if (0 : Int) ≤ IntKind.i64.wrap (y1.1 + (1 : Int)) ∧ IntKind.i64.wrap (y1.1 + (1 : Int)) ≤ (↑x1.size : Int) ∧ (↑x1.size : Int) ≤ (↑x1.size : Int) then (rc (x1.extract (IntKind.i64.wrap (y1.1 + (1 : Int))).toNat (↑x1.size : Int).toNat) (x2 ++ (List.replicate 1 ByteArray.empty).set 0 (x1.extract (IntKind.i64.wrap (y2.1 + (1 : Int))).toNat y1.1.toNat)) y6) else none) else none))) else none))) else none))) else none))))) else some ((x1, x2, x3, ())))
noncomputable def impll44_0 (K : Nat) : Nat → ByteArray → (List ByteArray) → Int → Option (ByteArray × (List ByteArray) × Int × Unit)
  | 0, _, _, _ => none
  | k + 1, x1, x2, x3 => implb44_0 K (impll44_0 K k) x1 x2 x3
noncomputable def n44_0 (K : Nat) : Lent := ⟨[0, 4, 5], i44_0, [9, 10, 11, 6, 7, 12, 13, 14, 15, 16, 17, 18, 19, 20, 21, 22, 23, 24, 25, 26, 27, 28, 29, 30, 31, 32, 33, 34, 35, 36, 37, 38, 39, 40, 41, 42, 43, 44, 45, 46, 47, 48, 49, 50, 51, 52, 53, 54, 55, 56, 57, 8, 58, 59, 60, 61, 62, 63, 64, 65, 66, 67, 68, 69, 70, 71, 72, 73, 74, 75, 76], [0], false, res44, fun x => impll44_0 K K x.1 x.2.1 x.2.2.1, [], none⟩
theorem q44_0 (K : Nat) (rc : ByteArray → (List ByteArray) → Int → Option (ByteArray × (List ByteArray) × Int × Unit)) (x1 : ByteArray) (x2 : (List ByteArray)) (x3 : Int) : evLoop (L44_2 K) 3 44 Tryz.f44.results.toList (loopOf 0 (codeOf Tryz.f44)) 0 [0, 4, 5] [] i44_0 [0] false res44 (fun x => rc x.1 x.2.1 x.2.2.1) (x1, x2, x3, ()) = implb44_0 K rc x1 x2 x3 := by kernel_rfl
theorem lp44_0 : loopsIn (loopOf 0 (codeOf Tryz.f44)) 0 = [(2, loopOf 2 (codeOf Tryz.f44)), (4, loopOf 4 (codeOf Tryz.f44))] := by kernel_rfl
theorem n44_0_ok (K : Nat) : LentOk Tryz.prog Tryz.f44 (loopOf 0 (codeOf Tryz.f44)) (n44_0 K) := lentOk_k (slots := [0, 4, 5]) (ali := []) (ins := i44_0) (writes := [9, 10, 11, 6, 7, 12, 13, 14, 15, 16, 17, 18, 19, 20, 21, 22, 23, 24, 25, 26, 27, 28, 29, 30, 31, 32, 33, 34, 35, 36, 37, 38, 39, 40, 41, 42, 43, 44, 45, 46, 47, 48, 49, 50, 51, 52, 53, 54, 55, 56, 57, 8, 58, 59, 60, 61, 62, 63, 64, 65, 66, 67, 68, 69, 70, 71, 72, 73, 74, 75, 76]) (exits := [0]) (rets := false) (rs := res44) (d := 3) (lib44_2 K) lp44_0 ⟨one_lent (n44_2_ok K), one_lent (n44_4_ok K), trivial⟩ (by kernel_rfl) (by kernel_rfl) (by kernel_rfl) (by kernel_rfl) (by kernel_rfl) (fun k x => impll44_0 K k x.1 x.2.1 x.2.2.1) (fun _ => rfl) (fun k x => q44_0 K (impll44_0 K k) x.1 x.2.1 x.2.2.1) K
noncomputable def L44_3 (K : Nat) : Lib := mkLib ti [(47, [e47 K]), (84, [e84 K]), (85, [e85 K])] [] 44 [(2, [n44_2 K]), (4, [n44_4 K]), (0, [n44_0 K])]
theorem lib44_3 (K : Nat) : LibOk Tryz.prog (L44_3 K) := libOk_mk (ents := [(47, [e47 K]), (84, [e84 K]), (85, [e85 K])]) (bodies := []) (loops := [(2, [n44_2 K]), (4, [n44_4 K]), (0, [n44_0 K])]) order tiOk ⟨one_ent (e47_ok K), one_ent (e84_ok K), one_ent (e85_ok K), trivial⟩ trivial Tryz.func44 rfl lp44 ⟨one_lent (n44_0_ok K), one_lent (n44_2_ok K), one_lent (n44_4_ok K), trivial⟩
noncomputable def implf44 (K : Nat) (x1 : ByteArray) : Option ((List ByteArray) × ByteArray) :=
  (ob (impll44_0 K K x1 [] ((0 : Int))) fun y1 => some ((y1.2.1, y1.1)))
theorem q44 (K : Nat) (x1 : ByteArray) : evFnK (α := (List ByteArray) × ByteArray) (L44_3 K) 3 44 Tryz.f44.results.toList (codeOf Tryz.f44) ins44 res44 (fun p => (p.1.1, p.1.2.1)) (x1, ()) = implf44 K x1 := by kernel_rfl
noncomputable def e44 (K : Nat) : Ent := ⟨ins44, res44, (List ByteArray) × ByteArray, fun x => implf44 K x.1, fun _ => (fun y => ((y.1, y.2, ()), (()))), false⟩
theorem e44_ok (K : Nat) : EntOk Tryz.prog 44 (e44 K) := entOk_k (ins := ins44) (rs := res44) (α := (List ByteArray) × ByteArray) (lib44_3 K) (d := 3) Tryz.func44 rfl (by kernel_rfl) (by kernel_rfl) (by kernel_rfl) (fun x => implf44 K x.1) (fun p => (p.1.1, p.1.2.1)) (fun y => ((y.1, y.2, ()), (()))) (fun _ => rfl) (fun x => q44 K x.1)

/-! slices.Equal[[]string,string] -/
abbrev ins117 : Fs := [(.dat (.sl (.str)), false), (.dat (.sl (.str)), false)]
abbrev res117 : Sh := .dat (.bool)
theorem lp117 : loopsIn (codeOf Tryz.f117) 0 = [(0, loopOf 0 (codeOf Tryz.f117))] := by kernel_rfl
noncomputable def L117_0 (K : Nat) : Lib := mkLib ti [] [] 117 []
theorem lib117_0 (K : Nat) : LibOk Tryz.prog (L117_0 K) := libOk_mk (ents := []) (bodies := []) (loops := []) order tiOk trivial trivial Tryz.func117 rfl lp117 ⟨no_lent, trivial⟩
abbrev i117_0 : Fs := [(.dat (.sl (.str)), false), (.dat (.sl (.str)), false), (.dat (.int Go.IntKind.i64), false), (.dat (.int Go.IntKind.i64), true)]
noncomputable def implb117_0 (K : Nat) (rc : (List ByteArray) → (List ByteArray) → Int → Int → Option (Sum (Int × Unit) Bool)) (x1 : (List ByteArray)) (x2 : (List ByteArray)) (x3 : Int) (x4 : Int) : Option (Sum (Int × Unit) Bool) :=
  (bif decide (x4 < x3) then (if (0 : Int) ≤ x4 ∧ x4 < (↑x1.length : Int) then (if (0 : Int) ≤ x4 ∧ x4 < (↑x2.length : Int) then (bif !(x1.getD x4.toNat ByteArray.empty).toList == (x2.getD x4.toNat ByteArray.empty).toList then some (Sum.inr false) else (rc x1 x2 x3 (IntKind.i64.wrap (x4 + (1 : Int))))) else none) else none) else some (Sum.inl (x4, ())))
noncomputable def impll117_0 (K : Nat) : Nat → (List ByteArray) → (List ByteArray) → Int → Int → Option (Sum (Int × Unit) Bool)
  | 0, _, _, _, _ => none
  | k + 1, x1, x2, x3, x4 => implb117_0 K (impll117_0 K k) x1 x2 x3 x4
noncomputable def n117_0 (K : Nat) : Lent := ⟨[0, 1, 12, 13], i117_0, [14, 15, 5, 16, 17, 18, 19, 20, 21, 22, 23, 24, 4, 25], [0], true, res117, fun x => impll117_0 K K x.1 x.2.1 x.2.2.1 x.2.2.2.1, [], none⟩
theorem q117_0 (K : Nat) (rc : (List ByteArray) → (List ByteArray) → Int → Int → Option (Sum (Int × Unit) Bool)) (x1 : (List ByteArray)) (x2 : (List ByteArray)) (x3 : Int) (x4 : Int) : evLoop (L117_0 K) 3 117 Tryz.f117.results.toList (loopOf 0 (codeOf Tryz.f117)) 0 [0, 1, 12, 13] [] i117_0 [0] true res117 (fun x => rc x.1 x.2.1 x.2.2.1 x.2.2.2.1) (x1, x2, x3, x4, ()) = implb117_0 K rc x1 x2 x3 x4 := by kernel_rfl
theorem lp117_0 : loopsIn (loopOf 0 (codeOf Tryz.f117)) 0 = [] := by kernel_rfl
theorem n117_0_ok (K : Nat) : LentOk Tryz.prog Tryz.f117 (loopOf 0 (codeOf Tryz.f117)) (n117_0 K) := lentOk_k (slots := [0, 1, 12, 13]) (ali := []) (ins := i117_0) (writes := [14, 15, 5, 16, 17, 18, 19, 20, 21, 22, 23, 24, 4, 25]) (exits := [0]) (rets := true) (rs := res117) (d := 3) (lib117_0 K) lp117_0 trivial (by kernel_rfl) (by kernel_rfl) (by kernel_rfl) (by kernel_rfl) (by kernel_rfl) (fun k x => impll117_0 K k x.1 x.2.1 x.2.2.1 x.2.2.2.1) (fun _ => rfl) (fun k x => q117_0 K (impll117_0 K k) x.1 x.2.1 x.2.2.1 x.2.2.2.1) K
noncomputable def L117_1 (K : Nat) : Lib := mkLib ti [] [] 117 [(0, [n117_0 K])]
theorem lib117_1 (K : Nat) : LibOk Tryz.prog (L117_1 K) := libOk_mk (ents := []) (bodies := []) (loops := [(0, [n117_0 K])]) order tiOk trivial trivial Tryz.func117 rfl lp117 ⟨one_lent (n117_0_ok K), trivial⟩
noncomputable def implf117 (K : Nat) (x1 : (List ByteArray)) (x2 : (List ByteArray)) : Option (Bool) :=
  (bif (↑x1.length : Int) != (↑x2.length : Int) then some (false) else (ob (impll117_0 K K x1 x2 ((↑x1.length : Int)) ((0 : Int))) fun y1 => (match y1 with | .inl y2 => some (true) | .inr y2 => some (y2))))
theorem q117 (K : Nat) (x1 : (List ByteArray)) (x2 : (List ByteArray)) : evFnK (α := Bool) (L117_1 K) 3 117 Tryz.f117.results.toList (codeOf Tryz.f117) ins117 res117 (fun p => p.1) (x1, x2, ()) = implf117 K x1 x2 := by kernel_rfl
noncomputable def e117 (K : Nat) : Ent := ⟨ins117, res117, Bool, fun x => implf117 K x.1 x.2.1, fun _ => (fun y => (y, (()))), false⟩
theorem e117_ok (K : Nat) : EntOk Tryz.prog 117 (e117 K) := entOk_k (ins := ins117) (rs := res117) (α := Bool) (lib117_1 K) (d := 3) Tryz.func117 rfl (by kernel_rfl) (by kernel_rfl) (by kernel_rfl) (fun x => implf117 K x.1 x.2.1) (fun p => p.1) (fun y => (y, (()))) (fun _ => rfl) (fun x => q117 K x.1 x.2.1)

/-! diaphone/station.same -/
abbrev ins91 : Fs := [(.dat (.pr (.int .i64) (.pr (.bool) (.pr (.int .i64) (.pr (.int .i64) (.pr (.int .i64) (.pr (.int .i64) (.pr (.int .i64) (.pr (.int .i64) (.pr (.int .i64) (.pr (.int .i64) (.pr (.int .i64) (.pr (.int .i64) (.sl (.str)))))))))))))), false), (.dat (.pr (.int .i64) (.pr (.bool) (.pr (.int .i64) (.pr (.int .i64) (.pr (.int .i64) (.pr (.int .i64) (.pr (.int .i64) (.pr (.int .i64) (.pr (.int .i64) (.pr (.int .i64) (.pr (.int .i64) (.pr (.int .i64) (.sl (.str)))))))))))))), false)]
abbrev res91 : Sh := .dat (.bool)
theorem lp91 : loopsIn (codeOf Tryz.f91) 0 = [] := by kernel_rfl
noncomputable def L91_0 (K : Nat) : Lib := mkLib ti [(117, [e117 K])] [] 91 []
theorem lib91_0 (K : Nat) : LibOk Tryz.prog (L91_0 K) := libOk_mk (ents := [(117, [e117 K])]) (bodies := []) (loops := []) order tiOk ⟨one_ent (e117_ok K), trivial⟩ trivial Tryz.func91 rfl lp91 trivial
noncomputable def implf91 (K : Nat) (x1 : (Int × (Bool × (Int × (Int × (Int × (Int × (Int × (Int × (Int × (Int × (Int × (Int × (List ByteArray)))))))))))))) (x2 : (Int × (Bool × (Int × (Int × (Int × (Int × (Int × (Int × (Int × (Int × (Int × (Int × (List ByteArray)))))))))))))) : Option (Bool) :=
  (ob (implf117 K x1.2.2.2.2.2.2.2.2.2.2.2.2 x2.2.2.2.2.2.2.2.2.2.2.2.2) fun y1 => (bif y1 then (bif x1.1 == x2.1 then (bif x1.2.1 == x2.2.1 then (bif x1.2.2.1 == x2.2.2.1 then (bif x1.2.2.2.1 == x2.2.2.2.1 then (bif x1.2.2.2.2.1 == x2.2.2.2.2.1 then (bif x1.2.2.2.2.2.1 == x2.2.2.2.2.2.1 then (bif x1.2.2.2.2.2.2.1 == x2.2.2.2.2.2.2.1 then (bif x1.2.2.2.2.2.2.2.1 == x2.2.2.2.2.2.2.2.1 then (bif x1.2.2.2.2.2.2.2.2.1 == x2.2.2.2.2.2.2.2.2.1 then (bif x1.2.2.2.2.2.2.2.2.2.1 == x2.2.2.2.2.2.2.2.2.2.1 then (bif x1.2.2.2.2.2.2.2.2.2.2.1 == x2.2.2.2.2.2.2.2.2.2.2.1 then some (x1.2.2.2.2.2.2.2.2.2.2.2.1 == x2.2.2.2.2.2.2.2.2.2.2.2.1) else some (false)) else some (false)) else some (false)) else some (false)) else some (false)) else some (false)) else some (false)) else some (false)) else some (false)) else some (false)) else some (false)) else some (false)))
theorem q91 (K : Nat) (x1 : (Int × (Bool × (Int × (Int × (Int × (Int × (Int × (Int × (Int × (Int × (Int × (Int × (List ByteArray)))))))))))))) (x2 : (Int × (Bool × (Int × (Int × (Int × (Int × (Int × (Int × (Int × (Int × (Int × (Int × (List ByteArray)))))))))))))) : evFnK (α := Bool) (L91_0 K) 3 91 Tryz.f91.results.toList (codeOf Tryz.f91) ins91 res91 (fun p => p.1) (x1, x2, ()) = implf91 K x1 x2 := by kernel_rfl
noncomputable def e91 (K : Nat) : Ent := ⟨ins91, res91, Bool, fun x => implf91 K x.1 x.2.1, fun _ => (fun y => (y, (()))), false⟩
theorem e91_ok (K : Nat) : EntOk Tryz.prog 91 (e91 K) := entOk_k (ins := ins91) (rs := res91) (α := Bool) (lib91_0 K) (d := 3) Tryz.func91 rfl (by kernel_rfl) (by kernel_rfl) (by kernel_rfl) (fun x => implf91 K x.1 x.2.1) (fun p => p.1) (fun y => (y, (()))) (fun _ => rfl) (fun x => q91 K x.1 x.2.1)

end Go.Proofs.YtbpjodikknbcoaaGreatDoor
