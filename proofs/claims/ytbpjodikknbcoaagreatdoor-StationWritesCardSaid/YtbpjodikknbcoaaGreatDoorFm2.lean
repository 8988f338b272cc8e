/- What the functions compute: printed by a program of this claim's author. -/
import Derived.Test.YtbpjodikknbcoaaGreatDoorFm1
set_option maxRecDepth 100000
set_option linter.unusedVariables false
set_option linter.unusedSimpArgs false
namespace Go.Proofs.YtbpjodikknbcoaaGreatDoor
open Go Go.Pv
/-! diaphone/charge.fill -/
abbrev ins75 : Fs := [(.dat (.sl (.int .i64)), false), (.dat (.int .i64), false)]
abbrev res75 : Sh := .pr (.own (.int .i64)) (.own (.int .i64))
theorem lp75 : loopsIn (codeOf Tryz.f75) 0 = [(1000000, loopOf 1000000 (codeOf Tryz.f75)), (0, loopOf 0 (codeOf Tryz.f75))] := by kernel_rfl
noncomputable def L75_0 (K : Nat) : Lib := mkLib ti [] [(76, Tryz.f76)] 75 []
theorem lib75_0 (K : Nat) : LibOk Tryz.prog (L75_0 K) := libOk_mk (ents := []) (bodies := [(76, Tryz.f76)]) (loops := []) order tiOk trivial ⟨bod76, trivial⟩ Tryz.func75 rfl lp75 ⟨no_lent, no_lent, trivial⟩
abbrev i75_0 : Fs := [(.dat (.sl (.int Go.IntKind.i64)), false), (.dat (.int Go.IntKind.i64), false), (.box (.pr (.own (.int .i64)) (.own (.int .i64))), true), (.box (.pr (.own (.int Go.IntKind.i64)) (.own (.int Go.IntKind.i64))), true), (.dat (.int Go.IntKind.i64), false), (.dat (.int Go.IntKind.i64), true), (.dat (.int Go.IntKind.i64), true), (.dat (.sl (.int Go.IntKind.i64)), false), (.dat (.int Go.IntKind.i64), false), (.dat (.int Go.IntKind.i64), true)]
noncomputable def implb75_0 (K : Nat) (rc : (List Int) → Int → ((List Int) × (List Int)) → ((List Int) × (List Int)) → Int → Int → Int → (List Int) → Int → Int → Option (((List Int) × (List Int)) × ((List Int) × (List Int)) × Int × Int × Int × Unit)) (x1 : (List Int)) (x2 : Int) (x3 : ((List Int) × (List Int))) (x4 : ((List Int) × (List Int))) (x5 : Int) (x6 : Int) (x7 : Int) (x8 : (List Int)) (x9 : Int) (x10 : Int) : Option (((List Int) × (List Int)) × ((List Int) × (List Int)) × Int × Int × Int × Unit) :=
  (bif decide (x10 < x9) then (if (0 : Int) ≤ x10 ∧ x10 < (↑x8.length : Int) then (bif decide (x8.getD x10.toNat ((0 : Int)) ≤ x5) then (if (0 : Int) ≤ IntKind.i64.wrap (x5 - x8.getD x10.toNat ((0 : Int))) ∧ IntKind.i64.wrap (x5 - x8.getD x10.toNat ((0 : Int))) < (↑x4.1.length : Int) then (bif decide (x4.1.getD (IntKind.i64.wrap (x5 - x8.getD x10.toNat ((0 : Int)))).toNat ((0 : Int)) ≥ (0 : Int)) then (bif decide (x6 < (0 : Int)) then (if (0 : Int) ≤ IntKind.i64.wrap (x5 - x8.getD x10.toNat ((0 : Int))) ∧ IntKind.i64.wrap (x5 - x8.getD x10.toNat ((0 : Int))) < (↑x4.1.length : Int) then (rc x1 x2 (x3.1, x3.2) (x4.1, x4.2) x5 (IntKind.i64.wrap (x4.1.getD (IntKind.i64.wrap (x5 - x8.getD x10.toNat ((0 : Int)))).toNat ((0 : Int)) + (1 : Int))) x10 x8 x9 (IntKind.i64.wrap (x10 + (1 : Int)))) else none) else (if (0 : Int) ≤ IntKind.i64.wrap (x5 - x8.getD x10.toNat ((0 : Int))) ∧ IntKind.i64.wrap (x5 - x8.getD x10.toNat ((0 : Int))) < (↑x4.1.length : Int) then (bif decide (IntKind.i64.wrap (x4.1.getD (IntKind.i64.wrap (x5 - x8.getD x10.toNat ((0 : Int)))).toNat ((0 : Int)) + (1 : Int)) < x6) then (if (0 : Int) ≤ IntKind.i64.wrap (x5 - x8.getD x10.toNat ((0 : Int))) ∧ IntKind.i64.wrap (x5 - x8.getD x10.toNat ((0 : Int))) < (↑x4.1.length : Int) then (rc x1 x2 (x3.1, x3.2) (x4.1, x4.2) x5 (IntKind.i64.wrap (x4.1.getD (IntKind.i64.wrap (x5 - x8.getD x10.toNat ((0 : Int)))).toNat ((0 : Int)) + (1 : Int))) x10 x8 x9 (IntKind.i64.wrap (x10 + (1 : Int)))) else none) else (rc x1 x2 (x3.1, x3.2) (x4.1, x4.2) x5 x6 x7 x8 x9 (IntKind.i64.wrap (x10 + (1 : Int))))) else none)) else (rc x1 x2 (x3.1, x3.2) (x4.1, x4.2) x5 x6 x7 x8 x9 (IntKind.i64.wrap (x10 + (1 : Int))))) else none) else (rc x1 x2 (x3.1, x3.2) (x4.1, x4.2) x5 x6 x7 x8 x9 (IntKind.i64.wrap (x10 + (1 : Int))))) else none) else some (((x3.1, x3.2), (x4.1, x4.2), x6, x7, x10, ())))
noncomputable def impll75_0 (K : Nat) : Nat → (List Int) → Int → ((List Int) × (List Int)) → ((List Int) × (List Int)) → Int → Int → Int → (List Int) → Int → Int → Option (((List Int) × (List Int)) × ((List Int) × (List Int)) × Int × Int × Int × Unit)
  | 0, _, _, _, _, _, _, _, _, _, _ => none
  | k + 1, x1, x2, x3, x4, x5, x6, x7, x8, x9, x10 => implb75_0 K (impll75_0 K k) x1 x2 x3 x4 x5 x6 x7 x8 x9 x10
noncomputable def n75_0 (K : Nat) : Lent := ⟨[0, 1, 4, 5, 6, 7, 8, 20, 21, 22], i75_0, [23, 24, 25, 26, 9, 10, 27, 28, 29, 30, 31, 32, 33, 34, 35, 36, 37, 38, 39, 40, 41, 42, 43, 44, 45, 46, 47, 48, 49, 50, 51, 52, 53, 54, 55, 56, 57, 58, 59, 60, 61, 62], [0], false, res75, fun x => impll75_0 K K x.1 x.2.1 x.2.2.1 x.2.2.2.1 x.2.2.2.2.1 x.2.2.2.2.2.1 x.2.2.2.2.2.2.1 x.2.2.2.2.2.2.2.1 x.2.2.2.2.2.2.2.2.1 x.2.2.2.2.2.2.2.2.2.1, [], none⟩
theorem q75_0 (K : Nat) (rc : (List Int) → Int → ((List Int) × (List Int)) → ((List Int) × (List Int)) → Int → Int → Int → (List Int) → Int → Int → Option (((List Int) × (List Int)) × ((List Int) × (List Int)) × Int × Int × Int × Unit)) (x1 : (List Int)) (x2 : Int) (x3 : ((List Int) × (List Int))) (x4 : ((List Int) × (List Int))) (x5 : Int) (x6 : Int) (x7 : Int) (x8 : (List Int)) (x9 : Int) (x10 : Int) : evLoop (L75_0 K) 3 75 Tryz.f75.results.toList (loopOf 0 (codeOf Tryz.f75)) 0 [0, 1, 4, 5, 6, 7, 8, 20, 21, 22] [] i75_0 [0] false res75 (fun x => rc x.1 x.2.1 x.2.2.1 x.2.2.2.1 x.2.2.2.2.1 x.2.2.2.2.2.1 x.2.2.2.2.2.2.1 x.2.2.2.2.2.2.2.1 x.2.2.2.2.2.2.2.2.1 x.2.2.2.2.2.2.2.2.2.1) (x1, x2, x3, x4, x5, x6, x7, x8, x9, x10, ()) = implb75_0 K rc x1 x2 x3 x4 x5 x6 x7 x8 x9 x10 := by kernel_rfl
theorem lp75_0 : loopsIn (loopOf 0 (codeOf Tryz.f75)) 0 = [] := by kernel_rfl
theorem n75_0_ok (K : Nat) : LentOk Tryz.prog Tryz.f75 (loopOf 0 (codeOf Tryz.f75)) (n75_0 K) := lentOk_k (slots := [0, 1, 4, 5, 6, 7, 8, 20, 21, 22]) (ali := []) (ins := i75_0) (writes := [23, 24, 25, 26, 9, 10, 27, 28, 29, 30, 31, 32, 33, 34, 35, 36, 37, 38, 39, 40, 41, 42, 43, 44, 45, 46, 47, 48, 49, 50, 51, 52, 53, 54, 55, 56, 57, 58, 59, 60, 61, 62]) (exits := [0]) (rets := false) (rs := res75) (d := 3) (lib75_0 K) lp75_0 trivial (by kernel_rfl) (by kernel_rfl) (by kernel_rfl) (by kernel_rfl) (by kernel_rfl) (fun k x => impll75_0 K k x.1 x.2.1 x.2.2.1 x.2.2.2.1 x.2.2.2.2.1 x.2.2.2.2.2.1 x.2.2.2.2.2.2.1 x.2.2.2.2.2.2.2.1 x.2.2.2.2.2.2.2.2.1 x.2.2.2.2.2.2.2.2.2.1) (fun _ => rfl) (fun k x => q75_0 K (impll75_0 K k) x.1 x.2.1 x.2.2.1 x.2.2.2.1 x.2.2.2.2.1 x.2.2.2.2.2.1 x.2.2.2.2.2.2.1 x.2.2.2.2.2.2.2.1 x.2.2.2.2.2.2.2.2.1 x.2.2.2.2.2.2.2.2.2.1) K
noncomputable def L75_1 (K : Nat) : Lib := mkLib ti [] [(76, Tryz.f76)] 75 [(0, [n75_0 K])]
theorem lib75_1 (K : Nat) : LibOk Tryz.prog (L75_1 K) := libOk_mk (ents := []) (bodies := [(76, Tryz.f76)]) (loops := [(0, [n75_0 K])]) order tiOk trivial ⟨bod76, trivial⟩ Tryz.func75 rfl lp75 ⟨no_lent, one_lent (n75_0_ok K), trivial⟩
abbrev i75_1000000 : Fs := [(.dat (.sl (.int Go.IntKind.i64)), false), (.dat (.int Go.IntKind.i64), false), (.box (.pr (.own (.int Go.IntKind.i64)) (.own (.int Go.IntKind.i64))), true), (.box (.pr (.own (.int Go.IntKind.i64)) (.own (.int Go.IntKind.i64))), true)]
noncomputable def implb75_1000000 (K : Nat) (rc : (List Int) → Int → ((List Int) × (List Int)) → ((List Int) × (List Int)) → Option ((List Int) × (List Int))) (x1 : (List Int)) (x2 : Int) (x3 : ((List Int) × (List Int))) (x4 : ((List Int) × (List Int))) : Option ((List Int) × (List Int)) :=
  (bif decide ((↑x4.1.length : Int) ≤ x2) then (ob (impll75_0 K K x1 x2 (x3.1, x3.2) (x4.1, x4.2) ((↑x4.1.length : Int)) (-1 : Int) (-1 : Int) x1 ((↑x1.length : Int)) ((0 : Int))) fun y1 => (if (y1.2.1.1.length + ((List.replicate 1 ((0 : Int))).set 0 y1.2.2.1).length) * 8 ≤ 140737488355328 then (if (y1.2.1.2.length + ((List.replicate 1 ((0 : Int))).set 0 y1.2.2.2.1).length) * 8 ≤ 140737488355328 then (rc x1 x2 (y1.1.1, y1.1.2) (y1.2.1.1 ++ (List.replicate 1 ((0 : Int))).set 0 y1.2.2.1, y1.2.1.2 ++ (List.replicate 1 ((0 : Int))).set 0 y1.2.2.2.1)) else none) else none)) else some ((x4.1, x4.2)))
noncomputable def impll75_1000000 (K : Nat) : Nat → (List Int) → Int → ((List Int) × (List Int)) → ((List Int) × (List Int)) → Option ((List Int) × (List Int))
  | 0, _, _, _, _ => none
  | k + 1, x1, x2, x3, x4 => implb75_1000000 K (impll75_1000000 K k) x1 x2 x3 x4
noncomputable def n75_1000000 (K : Nat) : Lent := ⟨[0, 1, 4, 5], i75_1000000, [14, 15, 16, 6, 17, 18, 19, 7, 8, 20, 21, 22, 23, 24, 25, 26, 9, 10, 27, 28, 29, 30, 31, 32, 33, 34, 35, 36, 37, 38, 39, 40, 41, 42, 43, 44, 45, 46, 47, 48, 49, 50, 51, 52, 53, 54, 55, 56, 57, 58, 59, 60, 61, 62, 63, 64, 65, 66, 67, 68, 69, 70, 71, 72, 73, 74, 75], [], true, res75, fun x => impll75_1000000 K K x.1 x.2.1 x.2.2.1 x.2.2.2.1, [], some 0⟩
theorem q75_1000000 (K : Nat) (rc : (List Int) → Int → ((List Int) × (List Int)) → ((List Int) × (List Int)) → Option ((List Int) × (List Int))) (x1 : (List Int)) (x2 : Int) (x3 : ((List Int) × (List Int))) (x4 : ((List Int) × (List Int))) : evJump (L75_1 K) 3 75 Tryz.f75.results.toList (loopOf 1000000 (codeOf Tryz.f75)) 0 0 [0, 1, 4, 5] [] i75_1000000 [] true res75 (fun x => rc x.1 x.2.1 x.2.2.1 x.2.2.2.1) (x1, x2, x3, x4, ()) = implb75_1000000 K rc x1 x2 x3 x4 := by kernel_rfl
theorem lp75_1000000 : loopsIn (loopOf 1000000 (codeOf Tryz.f75)) 0 = [(0, loopOf 0 (codeOf Tryz.f75))] := by kernel_rfl
theorem n75_1000000_ok (K : Nat) : LentOk Tryz.prog Tryz.f75 (loopOf 1000000 (codeOf Tryz.f75)) (n75_1000000 K) := jumpOk_k (slots := [0, 1, 4, 5]) (ali := []) (ins := i75_1000000) (writes := [14, 15, 16, 6, 17, 18, 19, 7, 8, 20, 21, 22, 23, 24, 25, 26, 9, 10, 27, 28, 29, 30, 31, 32, 33, 34, 35, 36, 37, 38, 39, 40, 41, 42, 43, 44, 45, 46, 47, 48, 49, 50, 51, 52, 53, 54, 55, 56, 57, 58, 59, 60, 61, 62, 63, 64, 65, 66, 67, 68, 69, 70, 71, 72, 73, 74, 75]) (exits := []) (rets := true) (rs := res75) (d := 3) (lib75_1 K) lp75_1000000 ⟨one_lent (n75_0_ok K), trivial⟩ (by kernel_rfl) (by kernel_rfl) (by kernel_rfl) (by kernel_rfl) (by kernel_rfl) (fun k x => impll75_1000000 K k x.1 x.2.1 x.2.2.1 x.2.2.2.1) (fun _ => rfl) (fun k x => q75_1000000 K (impll75_1000000 K k) x.1 x.2.1 x.2.2.1 x.2.2.2.1) K
noncomputable def L75_2 (K : Nat) : Lib := mkLib ti [] [(76, Tryz.f76)] 75 [(0, [n75_0 K]), (1000000, [n75_1000000 K])]
theorem lib75_2 (K : Nat) : LibOk Tryz.prog (L75_2 K) := libOk_mk (ents := []) (bodies := [(76, Tryz.f76)]) (loops := [(0, [n75_0 K]), (1000000, [n75_1000000 K])]) order tiOk trivial ⟨bod76, trivial⟩ Tryz.func75 rfl lp75 ⟨one_lent (n75_1000000_ok K), one_lent (n75_0_ok K), trivial⟩
noncomputable def implf75 (K : Nat) (x1 : (List Int)) (x2 : Int) : Option (((List Int) × (List Int))) :=
  (bif decide ((↑((List.replicate 1 ((0 : Int))).set 0 ((0 : Int))).length : Int) ≤ x2) then (ob (impll75_0 K K x1 x2 ([], []) ((List.replicate 1 ((0 : Int))).set 0 ((0 : Int)), (List.replicate 1 ((0 : Int))).set 0 (-1 : Int)) (Int.ofNat ((List.replicate 1 ((0 : Int))).set 0 ((0 : Int))).length) (-1 : Int) (-1 : Int) x1 ((↑x1.length : Int)) ((0 : Int))) fun y1 => (if (y1.2.1.1.length + ((List.replicate 1 ((0 : Int))).set 0 y1.2.2.1).length) * 8 ≤ 140737488355328 then (if (y1.2.1.2.length + ((List.replicate 1 ((0 : Int))).set 0 y1.2.2.2.1).length) * 8 ≤ 140737488355328 then (ob (impll75_1000000 K K x1 x2 (y1.1.1, y1.1.2) (y1.2.1.1 ++ (List.replicate 1 ((0 : Int))).set 0 y1.2.2.1, y1.2.1.2 ++ (List.replicate 1 ((0 : Int))).set 0 y1.2.2.2.1)) fun y2 => some ((y2.1, y2.2))) else none) else none)) else some (((List.replicate 1 ((0 : Int))).set 0 ((0 : Int)), (List.replicate 1 ((0 : Int))).set 0 (-1 : Int))))
theorem q75 (K : Nat) (x1 : (List Int)) (x2 : Int) : evFnK (α := ((List Int) × (List Int))) (L75_2 K) 3 75 Tryz.f75.results.toList (codeOf Tryz.f75) ins75 res75 (fun p => p.1) (x1, x2, ()) = implf75 K x1 x2 := by kernel_rfl
noncomputable def e75 (K : Nat) : Ent := ⟨ins75, res75, ((List Int) × (List Int)), fun x => implf75 K x.1 x.2.1, fun _ => (fun y => (y, (()))), false⟩
theorem e75_ok (K : Nat) : EntOk Tryz.prog 75 (e75 K) := entOk_k (ins := ins75) (rs := res75) (α := ((List Int) × (List Int))) (lib75_2 K) (d := 3) Tryz.func75 rfl (by kernel_rfl) (by kernel_rfl) (by kernel_rfl) (fun x => implf75 K x.1 x.2.1) (fun p => p.1) (fun y => (y, (()))) (fun _ => rfl) (fun x => q75 K x.1 x.2.1)

/-! diaphone/charge.Fewest -/
abbrev ins32 : Fs := [(.dat (.sl (.int .i64)), false), (.dat (.int .i64), false)]
abbrev res32 : Sh := .cons (.dat (.int .i64)) (.cons (.dat (.bool)) (.cons (.dat (.int .i64)) (.un)))
theorem lp32 : loopsIn (codeOf Tryz.f32) 0 = [] := by kernel_rfl
noncomputable def L32_0 (K : Nat) : Lib := mkLib ti [(74, [e74 K]), (75, [e75 K])] [(76, Tryz.f76)] 32 []
theorem lib32_0 (K : Nat) : LibOk Tryz.prog (L32_0 K) := libOk_mk (ents := [(74, [e74 K]), (75, [e75 K])]) (bodies := [(76, Tryz.f76)]) (loops := []) order tiOk ⟨one_ent (e74_ok K), one_ent (e75_ok K), trivial⟩ ⟨bod76, trivial⟩ Tryz.func32 rfl lp32 trivial
noncomputable def implf32 (K : Nat) (x1 : (List Int)) (x2 : Int) : Option (Int × Bool × Int) :=
  (ob (implf74 K x1 x2) fun y1 => (bif y1 != (0 : Int) then some (((0 : Int), false, y1)) else (ob (implf75 K x1 x2) fun y2 => (if (0 : Int) ≤ x2 ∧ x2 < (↑y2.1.length : Int) then (bif !decide (y2.1.getD x2.toNat ((0 : Int)) ≥ (0 : Int)) then some (((0 : Int), false, (0 : Int))) else (if (0 : Int) ≤ x2 ∧ x2 < (↑y2.1.length : Int) then some ((y2.1.getD x2.toNat ((0 : Int)), true, (0 : Int))) else none)) else none))))
theorem q32 (K : Nat) (x1 : (List Int)) (x2 : Int) : evFnK (α := Int × Bool × Int) (L32_0 K) 3 32 Tryz.f32.results.toList (codeOf Tryz.f32) ins32 res32 (fun p => (p.1.1, p.1.2.1, p.1.2.2.1)) (x1, x2, ()) = implf32 K x1 x2 := by kernel_rfl
noncomputable def e32 (K : Nat) : Ent := ⟨ins32, res32, Int × Bool × Int, fun x => implf32 K x.1 x.2.1, fun _ => (fun y => ((y.1, y.2.1, y.2.2, ()), (()))), false⟩
theorem e32_ok (K : Nat) : EntOk Tryz.prog 32 (e32 K) := entOk_k (ins := ins32) (rs := res32) (α := Int × Bool × Int) (lib32_0 K) (d := 3) Tryz.func32 rfl (by kernel_rfl) (by kernel_rfl) (by kernel_rfl) (fun x => implf32 K x.1 x.2.1) (fun p => (p.1.1, p.1.2.1, p.1.2.2.1)) (fun y => ((y.1, y.2.1, y.2.2, ()), (()))) (fun _ => rfl) (fun x => q32 K x.1 x.2.1)

/-! (*diaphone/station.Station).fire -/
abbrev ins138 : Fs := [(.box (.dat (.pr (.pr (.int .i32) (.int .u32)) (.pr (.sl (.int .i64)) (.pr (.sl (.int .i64)) (.pr (.pr (.sl (.arr 2 (.int .i64))) (.sl (.int .i64))) (.pr (.int .i64) (.pr (.bool) (.pr (.int .i64) (.pr (.int .i64) (.pr (.int .i64) (.pr (.int .i64) (.pr (.int .i64) (.pr (.int .i64) (.pr (.int .i64) (.pr (.int .i64) (.pr (.int .i64) (.pr (.int .i64) (.sl (.str))))))))))))))))))), false), (.box (.dat (.pr (.int .i64) (.pr (.bool) (.pr (.int .i64) (.pr (.int .i64) (.pr (.int .i64) (.pr (.int .i64) (.pr (.int .i64) (.pr (.int .i64) (.pr (.int .i64) (.pr (.int .i64) (.pr (.int .i64) (.pr (.int .i64) (.sl (.str))))))))))))))), true), (.dat (.int .i64), false)]
abbrev res138 : Sh := .dat (.err)
theorem lp138 : loopsIn (codeOf Tryz.f138) 0 = [] := by kernel_rfl
noncomputable def L138_0 (K : Nat) : Lib := mkLib ti [(32, [e32 K])] [] 138 []
theorem lib138_0 (K : Nat) : LibOk Tryz.prog (L138_0 K) := libOk_mk (ents := [(32, [e32 K])]) (bodies := []) (loops := []) order tiOk ⟨one_ent (e32_ok K), trivial⟩ trivial Tryz.func138 rfl lp138 trivial
noncomputable def implf138 (K : Nat) (x1 : STN) (x2 : (Int × (Bool × (Int × (Int × (Int × (Int × (Int × (Int × (Int × (Int × (Int × (Int × (List ByteArray)))))))))))))) (x3 : Int) : Option (Int × (Int × (Bool × (Int × (Int × (Int × (Int × (Int × (Int × (Int × (Int × (Int × (Int × (List ByteArray)))))))))))))) :=
  (bif x3 == (0 : Int) then some (((1 : Int), x2)) else (bif decide (x3 > (2000 : Int)) then some (((1 : Int), x2)) else (ob (implf32 K x1.2.2.1 x3) fun y1 => (bif y1.2.2 != (0 : Int) then (if (0 : Int) < y1.2.2 then some ((y1.2.2, x2)) else none) else (bif !y1.2.1 then some (((6 : Int), x2)) else (bif decide (y1.1 > x2.2.2.2.2.1) then some (((10 : Int), x2)) else some (((0 : Int), x2.1, x2.2.1, x2.2.2.1, x2.2.2.2.1, IntKind.i64.wrap (x2.2.2.2.2.1 - y1.1), x2.2.2.2.2.2.1, x2.2.2.2.2.2.2.1, x2.2.2.2.2.2.2.2.1, IntKind.i64.wrap (x2.2.2.2.2.2.2.2.2.1 + x3), IntKind.i64.wrap (x2.2.2.2.2.2.2.2.2.2.1 + y1.1), x2.2.2.2.2.2.2.2.2.2.2))))))))
theorem q138 (K : Nat) (x1 : STN) (x2 : (Int × (Bool × (Int × (Int × (Int × (Int × (Int × (Int × (Int × (Int × (Int × (Int × (List ByteArray)))))))))))))) (x3 : Int) : evFnK (α := Int × (Int × (Bool × (Int × (Int × (Int × (Int × (Int × (Int × (Int × (Int × (Int × (Int × (List ByteArray)))))))))))))) (L138_0 K) 3 138 Tryz.f138.results.toList (codeOf Tryz.f138) ins138 res138 (fun p => (p.1, p.2.1)) (x1, x2, x3, ()) = implf138 K x1 x2 x3 := by kernel_rfl
noncomputable def e138 (K : Nat) : Ent := ⟨ins138, res138, Int × (Int × (Bool × (Int × (Int × (Int × (Int × (Int × (Int × (Int × (Int × (Int × (Int × (List ByteArray))))))))))))), fun x => implf138 K x.1 x.2.1 x.2.2.1, fun _ => (fun y => (y.1, (y.2, ()))), false⟩
theorem e138_ok (K : Nat) : EntOk Tryz.prog 138 (e138 K) := entOk_k (ins := ins138) (rs := res138) (α := Int × (Int × (Bool × (Int × (Int × (Int × (Int × (Int × (Int × (Int × (Int × (Int × (Int × (List ByteArray)))))))))))))) (lib138_0 K) (d := 3) Tryz.func138 rfl (by kernel_rfl) (by kernel_rfl) (by kernel_rfl) (fun x => implf138 K x.1 x.2.1 x.2.2.1) (fun p => (p.1, p.2.1)) (fun y => (y.1, (y.2, ()))) (fun _ => rfl) (fun x => q138 K x.1 x.2.1 x.2.2.1)

/-! (*diaphone/station.Station).execute -/
abbrev ins103 : Fs := [(.box (.dat (.pr (.pr (.int .i32) (.int .u32)) (.pr (.sl (.int .i64)) (.pr (.sl (.int .i64)) (.pr (.pr (.sl (.arr 2 (.int .i64))) (.sl (.int .i64))) (.pr (.int .i64) (.pr (.bool) (.pr (.int .i64) (.pr (.int .i64) (.pr (.int .i64) (.pr (.int .i64) (.pr (.int .i64) (.pr (.int .i64) (.pr (.int .i64) (.pr (.int .i64) (.pr (.int .i64) (.pr (.int .i64) (.sl (.str))))))))))))))))))), false), (.box (.dat (.pr (.int .i64) (.pr (.bool) (.pr (.int .i64) (.pr (.int .i64) (.pr (.int .i64) (.pr (.int .i64) (.pr (.int .i64) (.pr (.int .i64) (.pr (.int .i64) (.pr (.int .i64) (.pr (.int .i64) (.pr (.int .i64) (.sl (.str))))))))))))))), true), (.dat (.pr (.int .i64) (.int .i64)), false)]
abbrev res103 : Sh := .dat (.err)
theorem lp103 : loopsIn (codeOf Tryz.f103) 0 = [(1, loopOf 1 (codeOf Tryz.f103))] := by kernel_rfl
noncomputable def L103_0 (K : Nat) : Lib := mkLib ti [(137, [e137 K]), (138, [e138 K])] [] 103 []
theorem lib103_0 (K : Nat) : LibOk Tryz.prog (L103_0 K) := libOk_mk (ents := [(137, [e137 K]), (138, [e138 K])]) (bodies := []) (loops := []) order tiOk ⟨one_ent (e137_ok K), one_ent (e138_ok K), trivial⟩ trivial Tryz.func103 rfl lp103 ⟨no_lent, trivial⟩
abbrev i103_1 : Fs := [(.box (.dat (.pr (.pr (.int Go.IntKind.i32) (.int Go.IntKind.u32)) (.pr (.sl (.int Go.IntKind.i64)) (.pr (.sl (.int Go.IntKind.i64)) (.pr (.pr (.sl (.arr 2 (.int Go.IntKind.i64))) (.sl (.int Go.IntKind.i64))) (.pr (.int Go.IntKind.i64) (.pr (.bool) (.pr (.int Go.IntKind.i64) (.pr (.int Go.IntKind.i64) (.pr (.int Go.IntKind.i64) (.pr (.int Go.IntKind.i64) (.pr (.int Go.IntKind.i64) (.pr (.int Go.IntKind.i64) (.pr (.int Go.IntKind.i64) (.pr (.int Go.IntKind.i64) (.pr (.int Go.IntKind.i64) (.pr (.int Go.IntKind.i64) (.sl (.str))))))))))))))))))), false), (.box (.dat (.pr (.int Go.IntKind.i64) (.pr (.bool) (.pr (.int Go.IntKind.i64) (.pr (.int Go.IntKind.i64) (.pr (.int Go.IntKind.i64) (.pr (.int Go.IntKind.i64) (.pr (.int Go.IntKind.i64) (.pr (.int Go.IntKind.i64) (.pr (.int Go.IntKind.i64) (.pr (.int Go.IntKind.i64) (.pr (.int Go.IntKind.i64) (.pr (.int Go.IntKind.i64) (.sl (.str))))))))))))))), true), (.dat (.int Go.IntKind.i64), false), (.dat (.int Go.IntKind.i64), true)]
noncomputable def implb103_1 (K : Nat) (rc : STN → (Int × (Bool × (Int × (Int × (Int × (Int × (Int × (Int × (Int × (Int × (Int × (Int × (List ByteArray))))))))))))) → Int → Int → Option ((Int × (Bool × (Int × (Int × (Int × (Int × (Int × (Int × (Int × (Int × (Int × (Int × (List ByteArray))))))))))))) × Int × Unit)) (x1 : STN) (x2 : (Int × (Bool × (Int × (Int × (Int × (Int × (Int × (Int × (Int × (Int × (Int × (Int × (List ByteArray)))))))))))))) (x3 : Int) (x4 : Int) : Option ((Int × (Bool × (Int × (Int × (Int × (Int × (Int × (Int × (Int × (Int × (Int × (Int × (List ByteArray))))))))))))) × Int × Unit) :=
  (bif decide (x4 < x3) then (ob (implf137 K x1 x2) fun y1 => (rc x1 y1 x3 (IntKind.i64.wrap (x4 + (1 : Int))))) else some ((x2, x4, ())))
noncomputable def impll103_1 (K : Nat) : Nat → STN → (Int × (Bool × (Int × (Int × (Int × (Int × (Int × (Int × (Int × (Int × (Int × (Int × (List ByteArray))))))))))))) → Int → Int → Option ((Int × (Bool × (Int × (Int × (Int × (Int × (Int × (Int × (Int × (Int × (Int × (Int × (List ByteArray))))))))))))) × Int × Unit)
  | 0, _, _, _, _ => none
  | k + 1, x1, x2, x3, x4 => implb103_1 K (impll103_1 K k) x1 x2 x3 x4
noncomputable def n103_1 (K : Nat) : Lent := ⟨[0, 1, 76, 77], i103_1, [78, 79, 80, 81, 82], [1], false, res103, fun x => impll103_1 K K x.1 x.2.1 x.2.2.1 x.2.2.2.1, [], none⟩
theorem q103_1 (K : Nat) (rc : STN → (Int × (Bool × (Int × (Int × (Int × (Int × (Int × (Int × (Int × (Int × (Int × (Int × (List ByteArray))))))))))))) → Int → Int → Option ((Int × (Bool × (Int × (Int × (Int × (Int × (Int × (Int × (Int × (Int × (Int × (Int × (List ByteArray))))))))))))) × Int × Unit)) (x1 : STN) (x2 : (Int × (Bool × (Int × (Int × (Int × (Int × (Int × (Int × (Int × (Int × (Int × (Int × (List ByteArray)))))))))))))) (x3 : Int) (x4 : Int) : evLoop (L103_0 K) 3 103 Tryz.f103.results.toList (loopOf 1 (codeOf Tryz.f103)) 1 [0, 1, 76, 77] [] i103_1 [1] false res103 (fun x => rc x.1 x.2.1 x.2.2.1 x.2.2.2.1) (x1, x2, x3, x4, ()) = implb103_1 K rc x1 x2 x3 x4 := by kernel_rfl
theorem lp103_1 : loopsIn (loopOf 1 (codeOf Tryz.f103)) 1 = [] := by kernel_rfl
theorem n103_1_ok (K : Nat) : LentOk Tryz.prog Tryz.f103 (loopOf 1 (codeOf Tryz.f103)) (n103_1 K) := lentOk_k (slots := [0, 1, 76, 77]) (ali := []) (ins := i103_1) (writes := [78, 79, 80, 81, 82]) (exits := [1]) (rets := false) (rs := res103) (d := 3) (lib103_0 K) lp103_1 trivial (by kernel_rfl) (by kernel_rfl) (by kernel_rfl) (by kernel_rfl) (by kernel_rfl) (fun k x => impll103_1 K k x.1 x.2.1 x.2.2.1 x.2.2.2.1) (fun _ => rfl) (fun k x => q103_1 K (impll103_1 K k) x.1 x.2.1 x.2.2.1 x.2.2.2.1) K
noncomputable def L103_1 (K : Nat) : Lib := mkLib ti [(137, [e137 K]), (138, [e138 K])] [] 103 [(1, [n103_1 K])]
theorem lib103_1 (K : Nat) : LibOk Tryz.prog (L103_1 K) := libOk_mk (ents := [(137, [e137 K]), (138, [e138 K])]) (bodies := []) (loops := [(1, [n103_1 K])]) order tiOk ⟨one_ent (e137_ok K), one_ent (e138_ok K), trivial⟩ trivial Tryz.func103 rfl lp103 ⟨one_lent (n103_1_ok K), trivial⟩
noncomputable def implf103 (K : Nat) (x1 : STN) (x2 : (Int × (Bool × (Int × (Int × (Int × (Int × (Int × (Int × (Int × (Int × (Int × (Int × (List ByteArray)))))))))))))) (x3 : (Int × Int)) : Option (Int × (Int × (Bool × (Int × (Int × (Int × (Int × (Int × (Int × (Int × (Int × (Int × (Int × (List ByteArray)))))))))))))) :=
  (bif x3.1 == (0 : Int) then (bif x2.2.1 then some (((5 : Int), x2)) else some (((0 : Int), x2.1, true, x2.2.2))) else (bif x3.1 == (1 : Int) then (bif !x2.2.1 then some (((8 : Int), x2)) else some (((0 : Int), x2.1, false, x2.2.2))) else (bif x3.1 == (2 : Int) then (bif x3.2 == (0 : Int) then some (((1 : Int), x2)) else (bif decide (IntKind.i64.wrap (x2.2.2.2.1 + x3.2) > (500 : Int)) then some (((3 : Int), x2)) else some (((0 : Int), x2.1, x2.2.1, x2.2.2.1, IntKind.i64.wrap (x2.2.2.2.1 + x3.2), x2.2.2.2.2.1, x2.2.2.2.2.2.1, x2.2.2.2.2.2.2.1, x2.2.2.2.2.2.2.2.1, x2.2.2.2.2.2.2.2.2.1, x2.2.2.2.2.2.2.2.2.2.1, IntKind.i64.wrap (x2.2.2.2.2.2.2.2.2.2.2.1 + x3.2), x2.2.2.2.2.2.2.2.2.2.2.2)))) else (bif x3.1 == (3 : Int) then (bif decide (x3.2 < (1 : Int)) then some (((1 : Int), x2)) else (bif decide (x3.2 > (99 : Int)) then some (((1 : Int), x2)) else (ob (impll103_1 K K x1 x2 x3.2 ((0 : Int))) fun y1 => some (((0 : Int), y1.1))))) else (bif x3.1 == (4 : Int) then (bif x3.2 == (0 : Int) then some (((1 : Int), x2)) else (bif decide (IntKind.i64.wrap (x2.2.2.2.2.1 + x3.2) > (500 : Int)) then some (((3 : Int), x2)) else some (((0 : Int), x2.1, x2.2.1, x2.2.2.1, x2.2.2.2.1, IntKind.i64.wrap (x2.2.2.2.2.1 + x3.2), x2.2.2.2.2.2.1, x2.2.2.2.2.2.2.1, x2.2.2.2.2.2.2.2.1, x2.2.2.2.2.2.2.2.2.1, x2.2.2.2.2.2.2.2.2.2.1, x2.2.2.2.2.2.2.2.2.2.2.1, IntKind.i64.wrap (x2.2.2.2.2.2.2.2.2.2.2.2.1 + x3.2), x2.2.2.2.2.2.2.2.2.2.2.2.2)))) else (bif x3.1 == (5 : Int) then (ob (implf138 K x1 x2 x3.2) fun y2 => some ((y2.1, y2.2))) else (bif x3.1 == (6 : Int) then (bif decide (x3.2 ≥ (↑x1.2.2.2.1.2.length : Int)) then some (((4 : Int), x2)) else (bif x3.2 == x2.2.2.1 then some (((5 : Int), x2)) else some (((0 : Int), x2.1, x2.2.1, x3.2, x2.2.2.2)))) else some (((0 : Int), x2)))))))))
theorem q103 (K : Nat) (x1 : STN) (x2 : (Int × (Bool × (Int × (Int × (Int × (Int × (Int × (Int × (Int × (Int × (Int × (Int × (List ByteArray)))))))))))))) (x3 : (Int × Int)) : evFnK (α := Int × (Int × (Bool × (Int × (Int × (Int × (Int × (Int × (Int × (Int × (Int × (Int × (Int × (List ByteArray)))))))))))))) (L103_1 K) 3 103 Tryz.f103.results.toList (codeOf Tryz.f103) ins103 res103 (fun p => (p.1, p.2.1)) (x1, x2, x3, ()) = implf103 K x1 x2 x3 := by kernel_rfl
noncomputable def e103 (K : Nat) : Ent := ⟨ins103, res103, Int × (Int × (Bool × (Int × (Int × (Int × (Int × (Int × (Int × (Int × (Int × (Int × (Int × (List ByteArray))))))))))))), fun x => implf103 K x.1 x.2.1 x.2.2.1, fun _ => (fun y => (y.1, (y.2, ()))), false⟩
theorem e103_ok (K : Nat) : EntOk Tryz.prog 103 (e103 K) := entOk_k (ins := ins103) (rs := res103) (α := Int × (Int × (Bool × (Int × (Int × (Int × (Int × (Int × (Int × (Int × (Int × (Int × (Int × (List ByteArray)))))))))))))) (lib103_1 K) (d := 3) Tryz.func103 rfl (by kernel_rfl) (by kernel_rfl) (by kernel_rfl) (fun x => implf103 K x.1 x.2.1 x.2.2.1) (fun p => (p.1, p.2.1)) (fun y => (y.1, (y.2, ()))) (fun _ => rfl) (fun x => q103 K x.1 x.2.1 x.2.2.1)

/-! slices.Clone[[]string,string] -/
abbrev ins104 : Fs := [(.dat (.sl (.str)), false)]
abbrev res104 : Sh := .own (.str)
noncomputable def implf104 (K : Nat) (x1 : List ByteArray) : Option (List ByteArray) := if ((List.replicate 0 (Ty.dflt (.str))).length + x1.length) * 16 ≤ 140737488355328 then some (List.replicate 0 (Ty.dflt (.str)) ++ x1) else none
noncomputable def e104 (K : Nat) : Ent := ⟨ins104, res104, List ByteArray, fun x => implf104 K x.1, fun _ => (fun y => (y, ())), false⟩
noncomputable def CC104 : Code := match codeOf Tryz.f104 with | .seq _ (.seq (.seq _ (.cond _ x _)) _) => x | _ => .skip
noncomputable def YY104 : Code := match codeOf Tryz.f104 with | .seq _ (.seq _ y) => y | _ => .skip
noncomputable def L104_0 (K : Nat) : Lib := mkLib ti [] [] 104 []
theorem lp104 : loopsIn (codeOf Tryz.f104) 0 = [] := by kernel_rfl
theorem lib104_0 (K : Nat) : LibOk Tryz.prog (L104_0 K) := libOk_mk (ents := []) (bodies := []) (loops := []) order tiOk trivial trivial Tryz.func104 rfl lp104 trivial
theorem e104_ok (K : Nat) : EntOk Tryz.prog 104 (e104 K) := by
  refine clone_ok (e := .str) (rs := .own (.str)) (lib104_0 K) Tryz.func104 rfl (by kernel_rfl) (by kernel_rfl) lp104 Tryz.underlying26 rfl (fun x => implf104 K x) (fun y => (y, ())) (fun xs => by kernel_rfl) ?_
  intro xs b y hy hb
  cases b with
  | true =>
    have := hb rfl
    subst this
    have : y = [] := by
      unfold implf104 at hy
      split at hy
      · cases hy; rfl
      · cases hy
    subst this
    refine Eq.trans (b := some (([] : List ByteArray), ())) ?_ rfl
    kernel_rfl
  | false =>
    unfold implf104 at hy
    split at hy
    · rename_i h
      cases hy
      have e1 : ∀ xs : List ByteArray, ev (L104_0 K) (inPlace (L104_0 K) 1) 104 Tryz.f104.results.toList (.seq (.cond (.tmp 4) CC104 .skip) YY104) 0 (fun ex st => match ex with | .normal => ob (resAV (L104_0 K) st Tryz.f104.results.toList) fun v => finish [(.dat (.sl (.str)), false)] (.own (.str)) (.cons (.dat (.sl (.str)) xs) .un) [] (resOne v) st | _ => none) (fun v st => finish [(.dat (.sl (.str)), false)] (.own (.str)) (.cons (.dat (.sl (.str)) xs) .un) [] v st) ⟨[(4, .dat .bool false), (3, .dat (.sl (.str)) xs), (2, .nil), (0, .dat (.sl (.str)) xs)], [], 0⟩ = (if ((List.replicate 0 (Ty.dflt (.str))).length + xs.length) * 16 ≤ 140737488355328 then some (List.replicate 0 (Ty.dflt (.str)) ++ xs, ()) else none) := fun xs => by kernel_rfl
      exact (e1 xs).trans (if_pos h)
    · cases hy

/-! (*diaphone/station.Station).do -/
abbrev ins73 : Fs := [(.box (.dat (.pr (.pr (.int .i32) (.int .u32)) (.pr (.sl (.int .i64)) (.pr (.sl (.int .i64)) (.pr (.pr (.sl (.arr 2 (.int .i64))) (.sl (.int .i64))) (.pr (.int .i64) (.pr (.bool) (.pr (.int .i64) (.pr (.int .i64) (.pr (.int .i64) (.pr (.int .i64) (.pr (.int .i64) (.pr (.int .i64) (.pr (.int .i64) (.pr (.int .i64) (.pr (.int .i64) (.pr (.int .i64) (.sl (.str))))))))))))))))))), true), (.dat (.str), false)]
abbrev res73 : Sh := .dat (.err)
theorem lp73 : loopsIn (codeOf Tryz.f73) 0 = [] := by kernel_rfl
noncomputable def L73_0 (K : Nat) : Lib := mkLib ti [(102, [e102 K]), (103, [e103 K]), (104, [e104 K])] [] 73 []
theorem lib73_0 (K : Nat) : LibOk Tryz.prog (L73_0 K) := libOk_mk (ents := [(102, [e102 K]), (103, [e103 K]), (104, [e104 K])]) (bodies := []) (loops := []) order tiOk ⟨one_ent (e102_ok K), one_ent (e103_ok K), one_ent (e104_ok K), trivial⟩ trivial Tryz.func73 rfl lp73 trivial
noncomputable def implf73 (K : Nat) (x1 : STN) (x2 : ByteArray) : Option (Int × STN) :=
  (ob (implf102 K x2) fun y1 => (bif !y1.2 then some (((2 : Int), x1)) else (bif decide ((↑x1.2.2.2.2.2.2.2.2.2.2.2.2.2.2.2.2.length : Int) ≥ (100 : Int)) then some (((3 : Int), x1)) else (ob (implf103 K x1 x1.2.2.2.2 y1.1) fun y2 => (bif !decide (y2.1 = (0 : Int)) then some ((y2.1, x1)) else (ob (implf104 K y2.2.2.2.2.2.2.2.2.2.2.2.2.2) fun y3 => (if (y3.length + ((List.replicate 1 ByteArray.empty).set 0 x2).length) * 16 ≤ 140737488355328 then some (((0 : Int), x1.1, x1.2.1, x1.2.2.1, x1.2.2.2.1, y2.2.1, y2.2.2.1, y2.2.2.2.1, y2.2.2.2.2.1, y2.2.2.2.2.2.1, y2.2.2.2.2.2.2.1, y2.2.2.2.2.2.2.2.1, y2.2.2.2.2.2.2.2.2.1, y2.2.2.2.2.2.2.2.2.2.1, y2.2.2.2.2.2.2.2.2.2.2.1, y2.2.2.2.2.2.2.2.2.2.2.2.1, y2.2.2.2.2.2.2.2.2.2.2.2.2.1, y3 ++ (List.replicate 1 ByteArray.empty).set 0 x2)) else none)))))))
theorem q73 (K : Nat) (x1 : STN) (x2 : ByteArray) : evFnK (α := Int × STN) (L73_0 K) 3 73 Tryz.f73.results.toList (codeOf Tryz.f73) ins73 res73 (fun p => (p.1, p.2.1)) (x1, x2, ()) = implf73 K x1 x2 := by kernel_rfl
noncomputable def e73 (K : Nat) : Ent := ⟨ins73, res73, Int × STN, fun x => implf73 K x.1 x.2.1, fun _ => (fun y => (y.1, (y.2, ()))), false⟩
theorem e73_ok (K : Nat) : EntOk Tryz.prog 73 (e73 K) := entOk_k (ins := ins73) (rs := res73) (α := Int × STN) (lib73_0 K) (d := 3) Tryz.func73 rfl (by kernel_rfl) (by kernel_rfl) (by kernel_rfl) (fun x => implf73 K x.1 x.2.1) (fun p => (p.1, p.2.1)) (fun y => (y.1, (y.2, ()))) (fun _ => rfl) (fun x => q73 K x.1 x.2.1)

/-! (*diaphone/station.Station).Do -/
abbrev ins31a : Fs := [(.box (.dat (.pr (.pr (.int .i32) (.int .u32)) (.pr (.sl (.int .i64)) (.pr (.sl (.int .i64)) (.pr (.pr (.sl (.arr 2 (.int .i64))) (.sl (.int .i64))) (.pr (.int .i64) (.pr (.bool) (.pr (.int .i64) (.pr (.int .i64) (.pr (.int .i64) (.pr (.int .i64) (.pr (.int .i64) (.pr (.int .i64) (.pr (.int .i64) (.pr (.int .i64) (.pr (.int .i64) (.pr (.int .i64) (.sl (.str))))))))))))))))))), true), (.dat .str, false)]
abbrev res31a : Sh := .dat (.int .i64)
noncomputable def implf31a (K : Nat) (x1 : ((Int × Int) × (List Int) × (List Int) × BOX × (Int × Bool × Int × Int × Int × Int × Int × Int × Int × Int × Int × Int × (List ByteArray)))) (x2 : ByteArray) : Option (Int × ((Int × Int) × (List Int) × (List Int) × BOX × (Int × Bool × Int × Int × Int × Int × Int × Int × Int × Int × Int × Int × (List ByteArray)))) := if x1.1.1 = 0 then ob (implf73 K ((1, x1.1.2), x1.2) x2) fun y => (if 0 ≤ y.1 ∧ y.2.1.1 = 1 then some (y.1, ((0, y.2.1.2), y.2.2)) else none) else none
noncomputable def e31a (K : Nat) : Ent := ⟨ins31a, res31a, Int × ((Int × Int) × (List Int) × (List Int) × BOX × (Int × Bool × Int × Int × Int × Int × Int × Int × Int × Int × Int × Int × (List ByteArray))), fun x => implf31a K x.1 x.2.1, fun _ => (fun y => (y.1, (y.2, ()))), false⟩
theorem e31a_ok (K : Nat) : EntOk Tryz.prog 31 (e31a K) := do_ent (e73_ok K)

abbrev ins31b : Fs := [(.dat .np, false), (.dat .str, false)]
abbrev res31b : Sh := .dat (.int .i64)
noncomputable def implf31b (K : Nat) (x1 : Unit) (x2 : ByteArray) : Option (Int) := some 1
noncomputable def e31b (K : Nat) : Ent := ⟨ins31b, res31b, Int, fun x => implf31b K x.1 x.2.1, fun _ => (fun y => (y, ())), false⟩
theorem e31b_ok (K : Nat) : EntOk Tryz.prog 31 (e31b K) := do_nil

/-! diaphone/relay.Validate -/
abbrev ins87 : Fs := [(.dat (.pr (.sl (.arr 2 (.int .i64))) (.sl (.int .i64))), false)]
abbrev res87 : Sh := .dat (.int .i64)
theorem lp87 : loopsIn (codeOf Tryz.f87) 0 = [(0, loopOf 0 (codeOf Tryz.f87))] := by kernel_rfl
noncomputable def L87_0 (K : Nat) : Lib := mkLib ti [(116, [e116 K])] [] 87 []
theorem lib87_0 (K : Nat) : LibOk Tryz.prog (L87_0 K) := libOk_mk (ents := [(116, [e116 K])]) (bodies := []) (loops := []) order tiOk ⟨one_ent (e116_ok K), trivial⟩ trivial Tryz.func87 rfl lp87 ⟨no_lent, trivial⟩
abbrev i87_0 : Fs := [(.box (.dat (.pr (.sl (.arr 2 (.int Go.IntKind.i64))) (.sl (.int Go.IntKind.i64)))), false), (.dat (.sl (.arr 2 (.int Go.IntKind.i64))), false), (.dat (.int Go.IntKind.i64), false), (.dat (.int Go.IntKind.i64), true)]
noncomputable def implb87_0 (K : Nat) (rc : BOX → (List (List Int)) → Int → Int → Option (Sum (Int × Unit) Int)) (x1 : BOX) (x2 : (List (List Int))) (x3 : Int) (x4 : Int) : Option (Sum (Int × Unit) Int) :=
  (bif decide (x4 < x3) then (if (0 : Int) ≤ x4 ∧ x4 < (↑x2.length : Int) then (ob (implf116 K ((x2.getD x4.toNat (List.replicate 2 ((0 : Int)))).getD (0) ((0 : Int))) ((0 : Int)) (IntKind.i64.wrap ((↑x1.1.length : Int) - (1 : Int)))) fun y1 => (bif !y1 then some (Sum.inr ((1 : Int))) else (ob (implf116 K ((x2.getD x4.toNat (List.replicate 2 ((0 : Int)))).getD (1) ((0 : Int))) ((0 : Int)) (IntKind.i64.wrap ((↑x1.1.length : Int) - (1 : Int)))) fun y2 => (bif !y2 then some (Sum.inr ((1 : Int))) else (if (0 : Int) ≤ x4 ∧ x4 < (↑x1.2.length : Int) then (ob (implf116 K (x1.2.getD x4.toNat ((0 : Int))) ((0 : Int)) ((3 : Int))) fun y3 => (bif !y3 then some (Sum.inr ((1 : Int))) else (rc x1 x2 x3 (IntKind.i64.wrap (x4 + (1 : Int)))))) else none))))) else none) else some (Sum.inl (x4, ())))
noncomputable def impll87_0 (K : Nat) : Nat → BOX → (List (List Int)) → Int → Int → Option (Sum (Int × Unit) Int)
  | 0, _, _, _, _ => none
  | k + 1, x1, x2, x3, x4 => implb87_0 K (impll87_0 K k) x1 x2 x3 x4
noncomputable def n87_0 (K : Nat) : Lent := ⟨[1, 20, 21, 22], i87_0, [23, 24, 25, 26, 4, 3, 27, 28, 29, 30, 31, 32, 33, 34, 35, 36, 37, 38, 39, 40, 41, 42, 43, 44, 45, 46, 47, 48, 49, 50, 51, 52, 53, 2, 54], [0], true, res87, fun x => impll87_0 K K x.1 x.2.1 x.2.2.1 x.2.2.2.1, [], none⟩
theorem q87_0 (K : Nat) (rc : BOX → (List (List Int)) → Int → Int → Option (Sum (Int × Unit) Int)) (x1 : BOX) (x2 : (List (List Int))) (x3 : Int) (x4 : Int) : evLoop (L87_0 K) 3 87 Tryz.f87.results.toList (loopOf 0 (codeOf Tryz.f87)) 0 [1, 20, 21, 22] [] i87_0 [0] true res87 (fun x => rc x.1 x.2.1 x.2.2.1 x.2.2.2.1) (x1, x2, x3, x4, ()) = implb87_0 K rc x1 x2 x3 x4 := by kernel_rfl
theorem lp87_0 : loopsIn (loopOf 0 (codeOf Tryz.f87)) 0 = [] := by kernel_rfl
theorem n87_0_ok (K : Nat) : LentOk Tryz.prog Tryz.f87 (loopOf 0 (codeOf Tryz.f87)) (n87_0 K) := lentOk_k (slots := [1, 20, 21, 22]) (ali := []) (ins := i87_0) (writes := [23, 24, 25, 26, 4, 3, 27, 28, 29, 30, 31, 32, 33, 34, 35, 36, 37, 38, 39, 40, 41, 42, 43, 44, 45, 46, 47, 48, 49, 50, 51, 52, 53, 2, 54]) (exits := [0]) (rets := true) (rs := res87) (d := 3) (lib87_0 K) lp87_0 trivial (by kernel_rfl) (by kernel_rfl) (by kernel_rfl) (by kernel_rfl) (by kernel_rfl) (fun k x => impll87_0 K k x.1 x.2.1 x.2.2.1 x.2.2.2.1) (fun _ => rfl) (fun k x => q87_0 K (impll87_0 K k) x.1 x.2.1 x.2.2.1 x.2.2.2.1) K
noncomputable def L87_1 (K : Nat) : Lib := mkLib ti [(116, [e116 K])] [] 87 [(0, [n87_0 K])]
theorem lib87_1 (K : Nat) : LibOk Tryz.prog (L87_1 K) := libOk_mk (ents := [(116, [e116 K])]) (bodies := []) (loops := [(0, [n87_0 K])]) order tiOk ⟨one_ent (e116_ok K), trivial⟩ trivial Tryz.func87 rfl lp87 ⟨one_lent (n87_0_ok K), trivial⟩
noncomputable def implf87 (K : Nat) (x1 : BOX) : Option (Int) :=
  (ob (implf116 K ((↑x1.1.length : Int)) ((1 : Int)) ((6 : Int))) fun y1 => (bif !y1 then some ((1 : Int)) else (bif (↑x1.2.length : Int) != (↑x1.1.length : Int) then some ((1 : Int)) else (ob (impll87_0 K K x1 x1.1 ((↑x1.1.length : Int)) ((0 : Int))) fun y2 => (match y2 with | .inl y3 => some ((0 : Int)) | .inr y3 => some (y3))))))
theorem q87 (K : Nat) (x1 : BOX) : evFnK (α := Int) (L87_1 K) 3 87 Tryz.f87.results.toList (codeOf Tryz.f87) ins87 res87 (fun p => p.1) (x1, ()) = implf87 K x1 := by kernel_rfl
noncomputable def e87 (K : Nat) : Ent := ⟨ins87, res87, Int, fun x => implf87 K x.1, fun _ => (fun y => (y, (()))), false⟩
theorem e87_ok (K : Nat) : EntOk Tryz.prog 87 (e87 K) := entOk_k (ins := ins87) (rs := res87) (α := Int) (lib87_1 K) (d := 3) Tryz.func87 rfl (by kernel_rfl) (by kernel_rfl) (by kernel_rfl) (fun x => implf87 K x.1) (fun p => p.1) (fun y => (y, (()))) (fun _ => rfl) (fun x => q87 K x.1)

/-! slices.Clone[[]int,int] -/
abbrev ins88 : Fs := [(.dat (.sl (.int .i64)), false)]
abbrev res88 : Sh := .own (.int .i64)
noncomputable def implf88 (K : Nat) (x1 : List Int) : Option (List Int) := if ((List.replicate 0 (Ty.dflt (.int .i64))).length + x1.length) * 8 ≤ 140737488355328 then some (List.replicate 0 (Ty.dflt (.int .i64)) ++ x1) else none
noncomputable def e88 (K : Nat) : Ent := ⟨ins88, res88, List Int, fun x => implf88 K x.1, fun _ => (fun y => (y, ())), false⟩
noncomputable def CC88 : Code := match codeOf Tryz.f88 with | .seq _ (.seq (.seq _ (.cond _ x _)) _) => x | _ => .skip
noncomputable def YY88 : Code := match codeOf Tryz.f88 with | .seq _ (.seq _ y) => y | _ => .skip
noncomputable def L88_0 (K : Nat) : Lib := mkLib ti [] [] 88 []
theorem lp88 : loopsIn (codeOf Tryz.f88) 0 = [] := by kernel_rfl
theorem lib88_0 (K : Nat) : LibOk Tryz.prog (L88_0 K) := libOk_mk (ents := []) (bodies := []) (loops := []) order tiOk trivial trivial Tryz.func88 rfl lp88 trivial
theorem e88_ok (K : Nat) : EntOk Tryz.prog 88 (e88 K) := by
  refine clone_ok (e := .int .i64) (rs := .own (.int .i64)) (lib88_0 K) Tryz.func88 rfl (by kernel_rfl) (by kernel_rfl) lp88 Tryz.underlying22 rfl (fun x => implf88 K x) (fun y => (y, ())) (fun xs => by kernel_rfl) ?_
  intro xs b y hy hb
  cases b with
  | true =>
    have := hb rfl
    subst this
    have : y = [] := by
      unfold implf88 at hy
      split at hy
      · cases hy; rfl
      · cases hy
    subst this
    refine Eq.trans (b := some (([] : List Int), ())) ?_ rfl
    kernel_rfl
  | false =>
    unfold implf88 at hy
    split at hy
    · rename_i h
      cases hy
      have e1 : ∀ xs : List Int, ev (L88_0 K) (inPlace (L88_0 K) 1) 88 Tryz.f88.results.toList (.seq (.cond (.tmp 4) CC88 .skip) YY88) 0 (fun ex st => match ex with | .normal => ob (resAV (L88_0 K) st Tryz.f88.results.toList) fun v => finish [(.dat (.sl (.int .i64)), false)] (.own (.int .i64)) (.cons (.dat (.sl (.int .i64)) xs) .un) [] (resOne v) st | _ => none) (fun v st => finish [(.dat (.sl (.int .i64)), false)] (.own (.int .i64)) (.cons (.dat (.sl (.int .i64)) xs) .un) [] v st) ⟨[(4, .dat .bool false), (3, .dat (.sl (.int .i64)) xs), (2, .nil), (0, .dat (.sl (.int .i64)) xs)], [], 0⟩ = (if ((List.replicate 0 (Ty.dflt (.int .i64))).length + xs.length) * 8 ≤ 140737488355328 then some (List.replicate 0 (Ty.dflt (.int .i64)) ++ xs, ()) else none) := fun xs => by kernel_rfl
      exact (e1 xs).trans (if_pos h)
    · cases hy

/-! slices.Clone[[][2]int,[2]int] -/
abbrev ins89 : Fs := [(.dat (.sl (.arr 2 (.int .i64))), false)]
abbrev res89 : Sh := .own (.arr 2 (.int .i64))
noncomputable def implf89 (K : Nat) (x1 : List (List Int)) : Option (List (List Int)) := if ((List.replicate 0 (Ty.dflt (.arr 2 (.int .i64)))).length + x1.length) * 16 ≤ 140737488355328 then some (List.replicate 0 (Ty.dflt (.arr 2 (.int .i64))) ++ x1) else none
noncomputable def e89 (K : Nat) : Ent := ⟨ins89, res89, List (List Int), fun x => implf89 K x.1, fun _ => (fun y => (y, ())), false⟩
noncomputable def CC89 : Code := match codeOf Tryz.f89 with | .seq _ (.seq (.seq _ (.cond _ x _)) _) => x | _ => .skip
noncomputable def YY89 : Code := match codeOf Tryz.f89 with | .seq _ (.seq _ y) => y | _ => .skip
noncomputable def L89_0 (K : Nat) : Lib := mkLib ti [] [] 89 []
theorem lp89 : loopsIn (codeOf Tryz.f89) 0 = [] := by kernel_rfl
theorem lib89_0 (K : Nat) : LibOk Tryz.prog (L89_0 K) := libOk_mk (ents := []) (bodies := []) (loops := []) order tiOk trivial trivial Tryz.func89 rfl lp89 trivial
theorem e89_ok (K : Nat) : EntOk Tryz.prog 89 (e89 K) := by
  refine clone_ok (e := .arr 2 (.int .i64)) (rs := .own (.arr 2 (.int .i64))) (lib89_0 K) Tryz.func89 rfl (by kernel_rfl) (by kernel_rfl) lp89 Tryz.underlying23 rfl (fun x => implf89 K x) (fun y => (y, ())) (fun xs => by kernel_rfl) ?_
  intro xs b y hy hb
  cases b with
  | true =>
    have := hb rfl
    subst this
    have : y = [] := by
      unfold implf89 at hy
      split at hy
      · cases hy; rfl
      · cases hy
    subst this
    refine Eq.trans (b := some (([] : List (List Int)), ())) ?_ rfl
    kernel_rfl
  | false =>
    unfold implf89 at hy
    split at hy
    · rename_i h
      cases hy
      have e1 : ∀ xs : List (List Int), ev (L89_0 K) (inPlace (L89_0 K) 1) 89 Tryz.f89.results.toList (.seq (.cond (.tmp 4) CC89 .skip) YY89) 0 (fun ex st => match ex with | .normal => ob (resAV (L89_0 K) st Tryz.f89.results.toList) fun v => finish [(.dat (.sl (.arr 2 (.int .i64))), false)] (.own (.arr 2 (.int .i64))) (.cons (.dat (.sl (.arr 2 (.int .i64))) xs) .un) [] (resOne v) st | _ => none) (fun v st => finish [(.dat (.sl (.arr 2 (.int .i64))), false)] (.own (.arr 2 (.int .i64))) (.cons (.dat (.sl (.arr 2 (.int .i64))) xs) .un) [] v st) ⟨[(4, .dat .bool false), (3, .dat (.sl (.arr 2 (.int .i64))) xs), (2, .nil), (0, .dat (.sl (.arr 2 (.int .i64))) xs)], [], 0⟩ = (if ((List.replicate 0 (Ty.dflt (.arr 2 (.int .i64)))).length + xs.length) * 16 ≤ 140737488355328 then some (List.replicate 0 (Ty.dflt (.arr 2 (.int .i64))) ++ xs, ()) else none) := fun xs => by kernel_rfl
      exact (e1 xs).trans (if_pos h)
    · cases hy

/-! diaphone/station.New -/
abbrev ins50a : Fs := [(.dat (.sl (.int .i64)), false), (.dat (.sl (.int .i64)), false), (.dat (.pr (.sl (.arr 2 (.int .i64))) (.sl (.int .i64))), false)]
abbrev res50a : Sh := .cons (.dat .np) (.cons (.dat (.int .i64)) (.un))
theorem lp50 : loopsIn (codeOf Tryz.f50) 0 = [] := by kernel_rfl
noncomputable def L50a_0 (K : Nat) : Lib := mkLib ti [(77, [e77 K]), (86, [e86 K]), (87, [e87 K]), (88, [e88 K]), (89, [e89 K])] [] 50 []
theorem lib50a_0 (K : Nat) : LibOk Tryz.prog (L50a_0 K) := libOk_mk (ents := [(77, [e77 K]), (86, [e86 K]), (87, [e87 K]), (88, [e88 K]), (89, [e89 K])]) (bodies := []) (loops := []) order tiOk ⟨one_ent (e77_ok K), one_ent (e86_ok K), one_ent (e87_ok K), one_ent (e88_ok K), one_ent (e89_ok K), trivial⟩ trivial Tryz.func50 rfl lp50 trivial
noncomputable def implf50a (K : Nat) (x1 : (List Int)) (x2 : (List Int)) (x3 : BOX) : Option (Unit × Int) :=
  (ob (implf77 K x1) fun y1 => (bif y1 != (0 : Int) then some (((), y1)) else (ob (implf86 K x2) fun y2 => (bif y2 != (0 : Int) then some (((), y2)) else (ob (implf87 K x3) fun y3 => (bif y3 != (0 : Int) then some (((), y3)) else (ob (implf88 K x1) fun y4 => (ob (implf88 K x2) fun y5 => (ob (implf89 K x3.1) fun y6 => (ob (implf88 K x3.2) fun y7 => none))))))))))
theorem q50a (K : Nat) (x1 : (List Int)) (x2 : (List Int)) (x3 : BOX) : evFnK (α := Unit × Int) (L50a_0 K) 3 50 Tryz.f50.results.toList (codeOf Tryz.f50) ins50a res50a (fun p => (p.1.1, p.1.2.1)) (x1, x2, x3, ()) = implf50a K x1 x2 x3 := by kernel_rfl
noncomputable def e50a (K : Nat) : Ent := ⟨ins50a, res50a, Unit × Int, fun x => implf50a K x.1 x.2.1 x.2.2.1, fun _ => (fun y => ((y.1, y.2, ()), (()))), false⟩
theorem e50a_ok (K : Nat) : EntOk Tryz.prog 50 (e50a K) := entOk_k (ins := ins50a) (rs := res50a) (α := Unit × Int) (lib50a_0 K) (d := 3) Tryz.func50 rfl (by kernel_rfl) (by kernel_rfl) (by kernel_rfl) (fun x => implf50a K x.1 x.2.1 x.2.2.1) (fun p => (p.1.1, p.1.2.1)) (fun y => ((y.1, y.2, ()), (()))) (fun _ => rfl) (fun x => q50a K x.1 x.2.1 x.2.2.1)

abbrev ins50b : Fs := [(.dat (.sl (.int .i64)), false), (.dat (.sl (.int .i64)), false), (.dat (.pr (.sl (.arr 2 (.int .i64))) (.sl (.int .i64))), false)]
abbrev res50b : Sh := .cons (.box (.dat (.pr (.pr (.int .i32) (.int .u32)) (.pr (.sl (.int .i64)) (.pr (.sl (.int .i64)) (.pr (.pr (.sl (.arr 2 (.int .i64))) (.sl (.int .i64))) (.pr (.int .i64) (.pr (.bool) (.pr (.int .i64) (.pr (.int .i64) (.pr (.int .i64) (.pr (.int .i64) (.pr (.int .i64) (.pr (.int .i64) (.pr (.int .i64) (.pr (.int .i64) (.pr (.int .i64) (.pr (.int .i64) (.sl (.str)))))))))))))))))))) (.cons (.dat (.int .i64)) (.un))
noncomputable def L50b_0 (K : Nat) : Lib := mkLib ti [(77, [e77 K]), (86, [e86 K]), (87, [e87 K]), (88, [e88 K]), (89, [e89 K])] [] 50 []
theorem lib50b_0 (K : Nat) : LibOk Tryz.prog (L50b_0 K) := libOk_mk (ents := [(77, [e77 K]), (86, [e86 K]), (87, [e87 K]), (88, [e88 K]), (89, [e89 K])]) (bodies := []) (loops := []) order tiOk ⟨one_ent (e77_ok K), one_ent (e86_ok K), one_ent (e87_ok K), one_ent (e88_ok K), one_ent (e89_ok K), trivial⟩ trivial Tryz.func50 rfl lp50 trivial
noncomputable def implf50b (K : Nat) (x1 : (List Int)) (x2 : (List Int)) (x3 : BOX) : Option (STN × Int) :=
  (ob (implf77 K x1) fun y1 => (bif y1 != (0 : Int) then none else (ob (implf86 K x2) fun y2 => (bif y2 != (0 : Int) then none else (ob (implf87 K x3) fun y3 => (bif y3 != (0 : Int) then none else (ob (implf88 K x1) fun y4 => (ob (implf88 K x2) fun y5 => (ob (implf89 K x3.1) fun y6 => (ob (implf88 K x3.2) fun y7 => some (((((0 : Int), (0 : Int)), y4, y5, (y6, y7), (0 : Int), false, (0 : Int), (0 : Int), (0 : Int), (0 : Int), (0 : Int), (0 : Int), (0 : Int), (0 : Int), (0 : Int), (0 : Int), []), (0 : Int)))))))))))))
theorem q50b (K : Nat) (x1 : (List Int)) (x2 : (List Int)) (x3 : BOX) : evFnK (α := STN × Int) (L50b_0 K) 3 50 Tryz.f50.results.toList (codeOf Tryz.f50) ins50b res50b (fun p => (p.1.1, p.1.2.1)) (x1, x2, x3, ()) = implf50b K x1 x2 x3 := by kernel_rfl
noncomputable def e50b (K : Nat) : Ent := ⟨ins50b, res50b, STN × Int, fun x => implf50b K x.1 x.2.1 x.2.2.1, fun _ => (fun y => ((y.1, y.2, ()), (()))), false⟩
theorem e50b_ok (K : Nat) : EntOk Tryz.prog 50 (e50b K) := entOk_k (ins := ins50b) (rs := res50b) (α := STN × Int) (lib50b_0 K) (d := 3) Tryz.func50 rfl (by kernel_rfl) (by kernel_rfl) (by kernel_rfl) (fun x => implf50b K x.1 x.2.1 x.2.2.1) (fun p => (p.1.1, p.1.2.1)) (fun y => ((y.1, y.2, ()), (()))) (fun _ => rfl) (fun x => q50b K x.1 x.2.1 x.2.2.1)

/-! diaphone/station.write -/
abbrev ins67 : Fs := [(.dat (.sl .str), false)]
abbrev res67 : Sh := .dat .str
noncomputable def implf67 (K : Nat) (x1 : List ByteArray) : Option (ByteArray) := if x1.length ≤ 1099511627776 then writeR (implf66 K) 0 ByteArray.empty x1 else none
noncomputable def e67 (K : Nat) : Ent := ⟨ins67, res67, ByteArray, fun x => implf67 K x.1, fun _ => (fun y => (y, ())), false⟩
theorem e67_ok (K : Nat) : EntOk Tryz.prog 67 (e67 K) := write_ent (e66_ok K)

/-! (*diaphone/station.Station).look -/
abbrev ins68a : Fs := [(.box (.dat (.pr (.pr (.int .i32) (.int .u32)) (.pr (.sl (.int .i64)) (.pr (.sl (.int .i64)) (.pr (.pr (.sl (.arr 2 (.int .i64))) (.sl (.int .i64))) (.pr (.int .i64) (.pr (.bool) (.pr (.int .i64) (.pr (.int .i64) (.pr (.int .i64) (.pr (.int .i64) (.pr (.int .i64) (.pr (.int .i64) (.pr (.int .i64) (.pr (.int .i64) (.pr (.int .i64) (.pr (.int .i64) (.sl (.str))))))))))))))))))), false)]
abbrev res68a : Sh := .dat (.pr (.int .i64) (.pr (.bool) (.pr (.int .i64) (.pr (.int .i64) (.pr (.int .i64) (.pr (.int .i64) (.pr (.int .i64) (.pr (.int .i64) (.pr (.int .i64) (.pr (.int .i64) (.pr (.int .i64) (.pr (.int .i64) (.sl (.str))))))))))))))
noncomputable def implf68a (K : Nat) (x1 : ((Int × Int) × (List Int) × (List Int) × BOX × (Int × Bool × Int × Int × Int × Int × Int × Int × Int × Int × Int × Int × (List ByteArray)))) : Option ((Int × Bool × Int × Int × Int × Int × Int × Int × Int × Int × Int × Int × (List ByteArray))) := if x1.1.1 = 0 then some x1.2.2.2.2 else none
noncomputable def e68a (K : Nat) : Ent := ⟨ins68a, res68a, (Int × Bool × Int × Int × Int × Int × Int × Int × Int × Int × Int × Int × (List ByteArray)), fun x => implf68a K x.1, fun _ => (fun y => (y, ())), false⟩
theorem e68a_ok (K : Nat) : EntOk Tryz.prog 68 (e68a K) := look_ent

abbrev ins68b : Fs := [(.dat .np, false)]
abbrev res68b : Sh := .dat (.pr (.int .i64) (.pr (.bool) (.pr (.int .i64) (.pr (.int .i64) (.pr (.int .i64) (.pr (.int .i64) (.pr (.int .i64) (.pr (.int .i64) (.pr (.int .i64) (.pr (.int .i64) (.pr (.int .i64) (.pr (.int .i64) (.sl (.str))))))))))))))
noncomputable def implf68b (K : Nat) (x1 : Unit) : Option ((Int × Bool × Int × Int × Int × Int × Int × Int × Int × Int × Int × Int × (List ByteArray))) := some (Ty.dflt (.pr (.int .i64) (.pr (.bool) (.pr (.int .i64) (.pr (.int .i64) (.pr (.int .i64) (.pr (.int .i64) (.pr (.int .i64) (.pr (.int .i64) (.pr (.int .i64) (.pr (.int .i64) (.pr (.int .i64) (.pr (.int .i64) (.sl (.str)))))))))))))))
noncomputable def e68b (K : Nat) : Ent := ⟨ins68b, res68b, (Int × Bool × Int × Int × Int × Int × Int × Int × Int × Int × Int × Int × (List ByteArray)), fun x => implf68b K x.1, fun _ => (fun y => (y, ())), false⟩
theorem e68b_ok (K : Nat) : EntOk Tryz.prog 68 (e68b K) := look_nil

/-! diaphone/station.Write -/
abbrev ins22 : Fs := [(.dat (.sl (.str)), false)]
abbrev res22 : Sh := .cons (.dat (.str)) (.cons (.dat (.int .i64)) (.un))
theorem lp22 : loopsIn (codeOf Tryz.f22) 0 = [(0, loopOf 0 (codeOf Tryz.f22))] := by kernel_rfl
noncomputable def L22_0 (K : Nat) : Lib := mkLib ti [(65, [e65 K]), (67, [e67 K])] [] 22 []
theorem lib22_0 (K : Nat) : LibOk Tryz.prog (L22_0 K) := libOk_mk (ents := [(65, [e65 K]), (67, [e67 K])]) (bodies := []) (loops := []) order tiOk ⟨one_ent (e65_ok K), one_ent (e67_ok K), trivial⟩ trivial Tryz.func22 rfl lp22 ⟨no_lent, trivial⟩
abbrev i22_0 : Fs := [(.dat (.sl (.str)), false), (.dat (.sl (.str)), false), (.dat (.int Go.IntKind.i64), false), (.dat (.int Go.IntKind.i64), true)]
noncomputable def implb22_0 (K : Nat) (rc : (List ByteArray) → (List ByteArray) → Int → Int → Option (Sum (Int × Unit) (ByteArray × Int × Unit))) (x1 : (List ByteArray)) (x2 : (List ByteArray)) (x3 : Int) (x4 : Int) : Option (Sum (Int × Unit) (ByteArray × Int × Unit)) :=
  (bif decide (x4 < x3) then (if (0 : Int) ≤ x4 ∧ x4 < (↑x2.length : Int) then (ob (implf65 K (x2.getD x4.toNat ByteArray.empty)) fun y1 => (bif !y1 then some (Sum.inr (ByteArray.mk #[], (1 : Int), ())) else (rc x1 x2 x3 (IntKind.i64.wrap (x4 + (1 : Int)))))) else none) else some (Sum.inl (x4, ())))
noncomputable def impll22_0 (K : Nat) : Nat → (List ByteArray) → (List ByteArray) → Int → Int → Option (Sum (Int × Unit) (ByteArray × Int × Unit))
  | 0, _, _, _, _ => none
  | k + 1, x1, x2, x3, x4 => implb22_0 K (impll22_0 K k) x1 x2 x3 x4
noncomputable def n22_0 (K : Nat) : Lent := ⟨[0, 9, 10, 11], i22_0, [12, 13, 14, 5, 15, 16, 17, 2, 3, 18], [0], true, res22, fun x => impll22_0 K K x.1 x.2.1 x.2.2.1 x.2.2.2.1, [], none⟩
theorem q22_0 (K : Nat) (rc : (List ByteArray) → (List ByteArray) → Int → Int → Option (Sum (Int × Unit) (ByteArray × Int × Unit))) (x1 : (List ByteArray)) (x2 : (List ByteArray)) (x3 : Int) (x4 : Int) : evLoop (L22_0 K) 3 22 Tryz.f22.results.toList (loopOf 0 (codeOf Tryz.f22)) 0 [0, 9, 10, 11] [] i22_0 [0] true res22 (fun x => rc x.1 x.2.1 x.2.2.1 x.2.2.2.1) (x1, x2, x3, x4, ()) = implb22_0 K rc x1 x2 x3 x4 := by kernel_rfl
theorem lp22_0 : loopsIn (loopOf 0 (codeOf Tryz.f22)) 0 = [] := by kernel_rfl
theorem n22_0_ok (K : Nat) : LentOk Tryz.prog Tryz.f22 (loopOf 0 (codeOf Tryz.f22)) (n22_0 K) := lentOk_k (slots := [0, 9, 10, 11]) (ali := []) (ins := i22_0) (writes := [12, 13, 14, 5, 15, 16, 17, 2, 3, 18]) (exits := [0]) (rets := true) (rs := res22) (d := 3) (lib22_0 K) lp22_0 trivial (by kernel_rfl) (by kernel_rfl) (by kernel_rfl) (by kernel_rfl) (by kernel_rfl) (fun k x => impll22_0 K k x.1 x.2.1 x.2.2.1 x.2.2.2.1) (fun _ => rfl) (fun k x => q22_0 K (impll22_0 K k) x.1 x.2.1 x.2.2.1 x.2.2.2.1) K
noncomputable def L22_1 (K : Nat) : Lib := mkLib ti [(65, [e65 K]), (67, [e67 K])] [] 22 [(0, [n22_0 K])]
theorem lib22_1 (K : Nat) : LibOk Tryz.prog (L22_1 K) := libOk_mk (ents := [(65, [e65 K]), (67, [e67 K])]) (bodies := []) (loops := [(0, [n22_0 K])]) order tiOk ⟨one_ent (e65_ok K), one_ent (e67_ok K), trivial⟩ trivial Tryz.func22 rfl lp22 ⟨one_lent (n22_0_ok K), trivial⟩
noncomputable def implf22 (K : Nat) (x1 : (List ByteArray)) : Option (ByteArray × Int) :=
  (bif decide ((↑x1.length : Int) > (100 : Int)) then some ((ByteArray.mk #[], (3 : Int))) else (ob (impll22_0 K K x1 x1 ((↑x1.length : Int)) ((0 : Int))) fun y1 => (match y1 with | .inl y2 => (ob (implf67 K x1) fun y3 => some ((y3, (0 : Int)))) | .inr y2 => some ((y2.1, y2.2.1)))))
theorem q22 (K : Nat) (x1 : (List ByteArray)) : evFnK (α := ByteArray × Int) (L22_1 K) 3 22 Tryz.f22.results.toList (codeOf Tryz.f22) ins22 res22 (fun p => (p.1.1, p.1.2.1)) (x1, ()) = implf22 K x1 := by kernel_rfl
noncomputable def e22 (K : Nat) : Ent := ⟨ins22, res22, ByteArray × Int, fun x => implf22 K x.1, fun _ => (fun y => ((y.1, y.2, ()), (()))), false⟩
theorem e22_ok (K : Nat) : EntOk Tryz.prog 22 (e22 K) := entOk_k (ins := ins22) (rs := res22) (α := ByteArray × Int) (lib22_1 K) (d := 3) Tryz.func22 rfl (by kernel_rfl) (by kernel_rfl) (by kernel_rfl) (fun x => implf22 K x.1) (fun p => (p.1.1, p.1.2.1)) (fun y => ((y.1, y.2, ()), (()))) (fun _ => rfl) (fun x => q22 K x.1)

/-! diaphone/station.Merge -/
abbrev ins23 : Fs := [(.dat (.str), false), (.dat (.str), false)]
abbrev res23 : Sh := .cons (.dat (.str)) (.cons (.dat (.int .i64)) (.cons (.dat (.int .i64)) (.un)))
theorem lp23 : loopsIn (codeOf Tryz.f23) 0 = [(0, loopOf 0 (codeOf Tryz.f23))] := by kernel_rfl
noncomputable def L23_0 (K : Nat) : Lib := mkLib ti [(19, [e19 K])] [] 23 []
theorem lib23_0 (K : Nat) : LibOk Tryz.prog (L23_0 K) := libOk_mk (ents := [(19, [e19 K])]) (bodies := []) (loops := []) order tiOk ⟨one_ent (e19_ok K), trivial⟩ trivial Tryz.func23 rfl lp23 ⟨no_lent, trivial⟩
abbrev i23_0 : Fs := [(.dat (.str), false), (.dat (.str), false), (.dat (.sl (.str)), false), (.dat (.sl (.str)), false), (.dat (.int Go.IntKind.i64), false), (.dat (.int Go.IntKind.i64), true)]
noncomputable def implb23_0 (K : Nat) (rc : ByteArray → ByteArray → (List ByteArray) → (List ByteArray) → Int → Int → Option (Sum (Int × Unit) (ByteArray × Int × Int × Unit))) (x1 : ByteArray) (x2 : ByteArray) (x3 : (List ByteArray)) (x4 : (List ByteArray)) (x5 : Int) (x6 : Int) : Option (Sum (Int × Unit) (ByteArray × Int × Int × Unit)) :=
  (bif decide (x6 < x5) then (if (0 : Int) ≤ x6 ∧ x6 < (↑x3.length : Int) then (if (0 : Int) ≤ x6 ∧ x6 < (↑x4.length : Int) then (bif !(x3.getD x6.toNat ByteArray.empty).toList == (x4.getD x6.toNat ByteArray.empty).toList then some (Sum.inr (ByteArray.mk #[], x6, (7 : Int), ())) else (rc x1 x2 x3 x4 x5 (IntKind.i64.wrap (x6 + (1 : Int))))) else none) else none) else some (Sum.inl (x6, ())))
noncomputable def impll23_0 (K : Nat) : Nat → ByteArray → ByteArray → (List ByteArray) → (List ByteArray) → Int → Int → Option (Sum (Int × Unit) (ByteArray × Int × Int × Unit))
  | 0, _, _, _, _, _, _ => none
  | k + 1, x1, x2, x3, x4, x5, x6 => implb23_0 K (impll23_0 K k) x1 x2 x3 x4 x5 x6
noncomputable def n23_0 (K : Nat) : Lent := ⟨[0, 1, 7, 9, 32, 33], i23_0, [34, 35, 11, 36, 37, 38, 39, 40, 41, 42, 43, 44, 45, 4, 5, 6, 46], [0], true, res23, fun x => impll23_0 K K x.1 x.2.1 x.2.2.1 x.2.2.2.1 x.2.2.2.2.1 x.2.2.2.2.2.1, [], none⟩
theorem q23_0 (K : Nat) (rc : ByteArray → ByteArray → (List ByteArray) → (List ByteArray) → Int → Int → Option (Sum (Int × Unit) (ByteArray × Int × Int × Unit))) (x1 : ByteArray) (x2 : ByteArray) (x3 : (List ByteArray)) (x4 : (List ByteArray)) (x5 : Int) (x6 : Int) : evLoop (L23_0 K) 3 23 Tryz.f23.results.toList (loopOf 0 (codeOf Tryz.f23)) 0 [0, 1, 7, 9, 32, 33] [] i23_0 [0] true res23 (fun x => rc x.1 x.2.1 x.2.2.1 x.2.2.2.1 x.2.2.2.2.1 x.2.2.2.2.2.1) (x1, x2, x3, x4, x5, x6, ()) = implb23_0 K rc x1 x2 x3 x4 x5 x6 := by kernel_rfl
theorem lp23_0 : loopsIn (loopOf 0 (codeOf Tryz.f23)) 0 = [] := by kernel_rfl
theorem n23_0_ok (K : Nat) : LentOk Tryz.prog Tryz.f23 (loopOf 0 (codeOf Tryz.f23)) (n23_0 K) := lentOk_k (slots := [0, 1, 7, 9, 32, 33]) (ali := []) (ins := i23_0) (writes := [34, 35, 11, 36, 37, 38, 39, 40, 41, 42, 43, 44, 45, 4, 5, 6, 46]) (exits := [0]) (rets := true) (rs := res23) (d := 3) (lib23_0 K) lp23_0 trivial (by kernel_rfl) (by kernel_rfl) (by kernel_rfl) (by kernel_rfl) (by kernel_rfl) (fun k x => impll23_0 K k x.1 x.2.1 x.2.2.1 x.2.2.2.1 x.2.2.2.2.1 x.2.2.2.2.2.1) (fun _ => rfl) (fun k x => q23_0 K (impll23_0 K k) x.1 x.2.1 x.2.2.1 x.2.2.2.1 x.2.2.2.2.1 x.2.2.2.2.2.1) K
noncomputable def L23_1 (K : Nat) : Lib := mkLib ti [(19, [e19 K])] [] 23 [(0, [n23_0 K])]
theorem lib23_1 (K : Nat) : LibOk Tryz.prog (L23_1 K) := libOk_mk (ents := [(19, [e19 K])]) (bodies := []) (loops := [(0, [n23_0 K])]) order tiOk ⟨one_ent (e19_ok K), trivial⟩ trivial Tryz.func23 rfl lp23 ⟨one_lent (n23_0_ok K), trivial⟩
noncomputable def implf23 (K : Nat) (x1 : ByteArray) (x2 : ByteArray) : Option (ByteArray × Int × Int) :=
  (ob (implf19 K x1) fun y1 => (ob (implf19 K x2) fun y2 => (bif !y1.2.toList == (ByteArray.mk #[]).toList then some ((ByteArray.mk #[], (0 : Int), (11 : Int))) else (bif !y2.2.toList == (ByteArray.mk #[]).toList then some ((ByteArray.mk #[], (0 : Int), (11 : Int))) else (ob (impll23_0 K K x1 x2 y1.1 y2.1 (min (↑y1.1.length : Int) (↑y2.1.length : Int)) ((0 : Int))) fun y3 => (match y3 with | .inl y4 => (bif decide ((↑y2.1.length : Int) > (↑y1.1.length : Int)) then some ((x2, (↑y2.1.length : Int), (0 : Int))) else some ((x1, (↑y1.1.length : Int), (0 : Int)))) | .inr y4 => some ((y4.1, y4.2.1, y4.2.2.1))))))))
theorem q23 (K : Nat) (x1 : ByteArray) (x2 : ByteArray) : evFnK (α := ByteArray × Int × Int) (L23_1 K) 3 23 Tryz.f23.results.toList (codeOf Tryz.f23) ins23 res23 (fun p => (p.1.1, p.1.2.1, p.1.2.2.1)) (x1, x2, ()) = implf23 K x1 x2 := by kernel_rfl
noncomputable def e23 (K : Nat) : Ent := ⟨ins23, res23, ByteArray × Int × Int, fun x => implf23 K x.1 x.2.1, fun _ => (fun y => ((y.1, y.2.1, y.2.2, ()), (()))), false⟩
theorem e23_ok (K : Nat) : EntOk Tryz.prog 23 (e23 K) := entOk_k (ins := ins23) (rs := res23) (α := ByteArray × Int × Int) (lib23_1 K) (d := 3) Tryz.func23 rfl (by kernel_rfl) (by kernel_rfl) (by kernel_rfl) (fun x => implf23 K x.1 x.2.1) (fun p => (p.1.1, p.1.2.1, p.1.2.2.1)) (fun y => ((y.1, y.2.1, y.2.2, ()), (()))) (fun _ => rfl) (fun x => q23 K x.1 x.2.1)

end Go.Proofs.YtbpjodikknbcoaaGreatDoor
