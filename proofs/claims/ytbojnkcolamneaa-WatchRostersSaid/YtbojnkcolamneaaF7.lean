/- What the functions compute: printed by a program of this claim's author. -/
import Derived.Test.YtbojnkcolamneaaF6
set_option maxRecDepth 100000
set_option linter.unusedVariables false
namespace Go.Proofs.Ytbojnkcolamneaa
open Go Go.Pv

/-! diaphone/diaphoneref04.CheckPosts -/
abbrev ins46 : Fs := [(.dat (.sl (.pr (.int .i64) (.pr (.int .i64) (.int .i64)))), false), (.dat (.sl (.pr (.int .i64) (.int .i64))), false)]
abbrev res46 : Sh := .cons (.dat (.int .i64)) (.cons (.dat (.int .i64)) (.un))
theorem lp46 : loopsIn (codeOf Try.f46) 0 = [(0, loopOf 0 (codeOf Try.f46)), (2, loopOf 2 (codeOf Try.f46)), (4, loopOf 4 (codeOf Try.f46))] := by kernel_rfl
noncomputable def L46_0 (K : Nat) : Lib := mkLib ti [(25, [e25 K]), (65, [e65 K]), (83, [e83 K])] [] 46 []
theorem lib46_0 (K : Nat) : LibOk Try.prog (L46_0 K) := libOk_mk (ents := [(25, [e25 K]), (65, [e65 K]), (83, [e83 K])]) (bodies := []) (loops := []) order tiOk ⟨one_ent (e25_ok K), one_ent (e65_ok K), one_ent (e83_ok K), trivial⟩ trivial Try.func46 rfl lp46 ⟨no_lent, no_lent, no_lent, trivial⟩
abbrev i46_0 : Fs := [(.dat (.sl (.pr (.int Go.IntKind.i64) (.pr (.int Go.IntKind.i64) (.int Go.IntKind.i64)))), false), (.dat (.sl (.pr (.int Go.IntKind.i64) (.int Go.IntKind.i64))), false), (.dat (.int Go.IntKind.i64), true), (.dat (.int Go.IntKind.i64), true)]
noncomputable def implb46_0 (K : Nat) (rc : (List (Int × (Int × Int))) → (List (Int × Int)) → Int → Int → Option (Sum (Int × Int × Unit) (Int × Int × Unit))) (x1 : (List (Int × (Int × Int)))) (x2 : (List (Int × Int))) (x3 : Int) (x4 : Int) : Option (Sum (Int × Int × Unit) (Int × Int × Unit)) :=
  (bif decide (x4 < (↑x2.length : Int)) then (if (0 : Int) ≤ x4 ∧ x4 < (↑x2.length : Int) then (ob (implf65 K (x2.getD x4.toNat ((0 : Int), (0 : Int))).1 ((0 : Int)) ((1000 : Int))) fun y1 => (bif !y1 then some (Sum.inr ((0 : Int), (1 : Int), ())) else (if (0 : Int) ≤ x4 ∧ x4 < (↑x2.length : Int) then (ob (implf65 K (x2.getD x4.toNat ((0 : Int), (0 : Int))).2 ((0 : Int)) ((1188 : Int))) fun y2 => (bif !y2 then some (Sum.inr ((0 : Int), (1 : Int), ())) else (if (0 : Int) ≤ x4 ∧ x4 < (↑x2.length : Int) then (rc x1 x2 (IntKind.i64.wrap (x3 + (x2.getD x4.toNat ((0 : Int), (0 : Int))).2)) (IntKind.i64.wrap (x4 + (1 : Int)))) else none))) else none))) else none) else some (Sum.inl (x3, x4, ())))
noncomputable def impll46_0 (K : Nat) : Nat → (List (Int × (Int × Int))) → (List (Int × Int)) → Int → Int → Option (Sum (Int × Int × Unit) (Int × Int × Unit))
  | 0, _, _, _, _ => none
  | k + 1, x1, x2, x3, x4 => implb46_0 K (impll46_0 K k) x1 x2 x3 x4
noncomputable def n46_0 (K : Nat) : Lent := ⟨[0, 1, 7, 8], i46_0, [20, 21, 22, 23, 26, 27, 28, 29, 30, 31, 32, 33, 34, 35, 36, 37, 38, 39, 40, 41, 4, 5, 42, 43, 44, 45, 46, 47, 48, 24, 25], [0], true, res46, fun x => impll46_0 K K x.1 x.2.1 x.2.2.1 x.2.2.2.1, []⟩
theorem q46_0 (K : Nat) (rc : (List (Int × (Int × Int))) → (List (Int × Int)) → Int → Int → Option (Sum (Int × Int × Unit) (Int × Int × Unit))) (x1 : (List (Int × (Int × Int)))) (x2 : (List (Int × Int))) (x3 : Int) (x4 : Int) : evLoop (L46_0 K) 3 46 Try.f46.results.toList (loopOf 0 (codeOf Try.f46)) 0 [0, 1, 7, 8] [] i46_0 [0] true res46 (fun x => rc x.1 x.2.1 x.2.2.1 x.2.2.2.1) (x1, x2, x3, x4, ()) = implb46_0 K rc x1 x2 x3 x4 := by kernel_rfl
theorem lp46_0 : loopsIn (loopOf 0 (codeOf Try.f46)) 0 = [] := by kernel_rfl
theorem n46_0_ok (K : Nat) : LentOk Try.prog Try.f46 (loopOf 0 (codeOf Try.f46)) (n46_0 K) := lentOk_k (slots := [0, 1, 7, 8]) (ali := []) (ins := i46_0) (writes := [20, 21, 22, 23, 26, 27, 28, 29, 30, 31, 32, 33, 34, 35, 36, 37, 38, 39, 40, 41, 4, 5, 42, 43, 44, 45, 46, 47, 48, 24, 25]) (exits := [0]) (rets := true) (rs := res46) (lib46_0 K) lp46_0 trivial (by kernel_rfl) (by kernel_rfl) (by kernel_rfl) (by kernel_rfl) (by kernel_rfl) (fun k x => impll46_0 K k x.1 x.2.1 x.2.2.1 x.2.2.2.1) (fun _ => rfl) (fun k x => q46_0 K (impll46_0 K k) x.1 x.2.1 x.2.2.1 x.2.2.2.1) K
noncomputable def L46_1 (K : Nat) : Lib := mkLib ti [(25, [e25 K]), (65, [e65 K]), (83, [e83 K])] [] 46 [(0, [n46_0 K])]
theorem lib46_1 (K : Nat) : LibOk Try.prog (L46_1 K) := libOk_mk (ents := [(25, [e25 K]), (65, [e65 K]), (83, [e83 K])]) (bodies := []) (loops := [(0, [n46_0 K])]) order tiOk ⟨one_ent (e25_ok K), one_ent (e65_ok K), one_ent (e83_ok K), trivial⟩ trivial Try.func46 rfl lp46 ⟨one_lent (n46_0_ok K), no_lent, no_lent, trivial⟩
abbrev i46_2 : Fs := [(.dat (.sl (.pr (.int Go.IntKind.i64) (.pr (.int Go.IntKind.i64) (.int Go.IntKind.i64)))), false), (.dat (.sl (.pr (.int Go.IntKind.i64) (.int Go.IntKind.i64))), false), (.dat (.int Go.IntKind.i64), false), (.dat (.int Go.IntKind.i64), true)]
abbrev i46_4 : Fs := [(.dat (.sl (.pr (.int Go.IntKind.i64) (.pr (.int Go.IntKind.i64) (.int Go.IntKind.i64)))), false), (.dat (.sl (.pr (.int Go.IntKind.i64) (.int Go.IntKind.i64))), false), (.dat (.int Go.IntKind.i64), false), (.dat (.int Go.IntKind.i64), false), (.dat (.int Go.IntKind.i64), true), (.dat (.int Go.IntKind.i64), true)]
noncomputable def implb46_4 (K : Nat) (rc : (List (Int × (Int × Int))) → (List (Int × Int)) → Int → Int → Int → Int → Option (Int × Int × Unit)) (x1 : (List (Int × (Int × Int)))) (x2 : (List (Int × Int))) (x3 : Int) (x4 : Int) (x5 : Int) (x6 : Int) : Option (Int × Int × Unit) :=
  (bif decide (x6 < (↑x2.length : Int)) then (if (0 : Int) ≤ x4 ∧ x4 < (↑x1.length : Int) then (if (0 : Int) ≤ x6 ∧ x6 < (↑x2.length : Int) then (ob (implf83 K (x1.getD x4.toNat ((0 : Int), (0 : Int), (0 : Int))) (x2.getD x6.toNat ((0 : Int), (0 : Int))).1) fun y1 => (bif y1 then (if (0 : Int) ≤ x6 ∧ x6 < (↑x2.length : Int) then (rc x1 x2 x3 x4 (IntKind.i64.wrap (x5 + (x2.getD x6.toNat ((0 : Int), (0 : Int))).2)) (IntKind.i64.wrap (x6 + (1 : Int)))) else none) else (rc x1 x2 x3 x4 x5 (IntKind.i64.wrap (x6 + (1 : Int)))))) else none) else none) else some ((x5, x6, ())))
noncomputable def impll46_4 (K : Nat) : Nat → (List (Int × (Int × Int))) → (List (Int × Int)) → Int → Int → Int → Int → Option (Int × Int × Unit)
  | 0, _, _, _, _, _, _ => none
  | k + 1, x1, x2, x3, x4, x5, x6 => implb46_4 K (impll46_4 K k) x1 x2 x3 x4 x5 x6
noncomputable def n46_4 (K : Nat) : Lent := ⟨[0, 1, 7, 9, 10, 11], i46_4, [55, 56, 57, 58, 61, 62, 63, 64, 65, 66, 67, 68, 69, 70, 71, 72, 73, 74, 75, 76, 77, 59, 60], [4], false, res46, fun x => impll46_4 K K x.1 x.2.1 x.2.2.1 x.2.2.2.1 x.2.2.2.2.1 x.2.2.2.2.2.1, []⟩
theorem q46_4 (K : Nat) (rc : (List (Int × (Int × Int))) → (List (Int × Int)) → Int → Int → Int → Int → Option (Int × Int × Unit)) (x1 : (List (Int × (Int × Int)))) (x2 : (List (Int × Int))) (x3 : Int) (x4 : Int) (x5 : Int) (x6 : Int) : evLoop (L46_1 K) 3 46 Try.f46.results.toList (loopOf 4 (codeOf Try.f46)) 4 [0, 1, 7, 9, 10, 11] [] i46_4 [4] false res46 (fun x => rc x.1 x.2.1 x.2.2.1 x.2.2.2.1 x.2.2.2.2.1 x.2.2.2.2.2.1) (x1, x2, x3, x4, x5, x6, ()) = implb46_4 K rc x1 x2 x3 x4 x5 x6 := by kernel_rfl
theorem lp46_4 : loopsIn (loopOf 4 (codeOf Try.f46)) 4 = [] := by kernel_rfl
theorem n46_4_ok (K : Nat) : LentOk Try.prog Try.f46 (loopOf 4 (codeOf Try.f46)) (n46_4 K) := lentOk_k (slots := [0, 1, 7, 9, 10, 11]) (ali := []) (ins := i46_4) (writes := [55, 56, 57, 58, 61, 62, 63, 64, 65, 66, 67, 68, 69, 70, 71, 72, 73, 74, 75, 76, 77, 59, 60]) (exits := [4]) (rets := false) (rs := res46) (lib46_1 K) lp46_4 trivial (by kernel_rfl) (by kernel_rfl) (by kernel_rfl) (by kernel_rfl) (by kernel_rfl) (fun k x => impll46_4 K k x.1 x.2.1 x.2.2.1 x.2.2.2.1 x.2.2.2.2.1 x.2.2.2.2.2.1) (fun _ => rfl) (fun k x => q46_4 K (impll46_4 K k) x.1 x.2.1 x.2.2.1 x.2.2.2.1 x.2.2.2.2.1 x.2.2.2.2.2.1) K
noncomputable def L46_2 (K : Nat) : Lib := mkLib ti [(25, [e25 K]), (65, [e65 K]), (83, [e83 K])] [] 46 [(0, [n46_0 K]), (4, [n46_4 K])]
theorem lib46_2 (K : Nat) : LibOk Try.prog (L46_2 K) := libOk_mk (ents := [(25, [e25 K]), (65, [e65 K]), (83, [e83 K])]) (bodies := []) (loops := [(0, [n46_0 K]), (4, [n46_4 K])]) order tiOk ⟨one_ent (e25_ok K), one_ent (e65_ok K), one_ent (e83_ok K), trivial⟩ trivial Try.func46 rfl lp46 ⟨one_lent (n46_0_ok K), no_lent, one_lent (n46_4_ok K), trivial⟩
noncomputable def implb46_2 (K : Nat) (rc : (List (Int × (Int × Int))) → (List (Int × Int)) → Int → Int → Option (Sum (Int × Unit) (Int × Int × Unit))) (x1 : (List (Int × (Int × Int)))) (x2 : (List (Int × Int))) (x3 : Int) (x4 : Int) : Option (Sum (Int × Unit) (Int × Int × Unit)) :=
  (bif decide (x4 < (↑x1.length : Int)) then (ob (impll46_4 K K x1 x2 x3 x4 ((0 : Int)) ((0 : Int))) fun y1 => (if (0 : Int) ≤ x4 ∧ x4 < (↑x1.length : Int) then (bif decide (y1.1 < (x1.getD x4.toNat ((0 : Int), (0 : Int), (0 : Int))).2.2) then some (Sum.inr ((0 : Int), (6 : Int), ())) else (rc x1 x2 x3 (IntKind.i64.wrap (x4 + (1 : Int))))) else none)) else some (Sum.inl (x4, ())))
noncomputable def impll46_2 (K : Nat) : Nat → (List (Int × (Int × Int))) → (List (Int × Int)) → Int → Int → Option (Sum (Int × Unit) (Int × Int × Unit))
  | 0, _, _, _, _ => none
  | k + 1, x1, x2, x3, x4 => implb46_2 K (impll46_2 K k) x1 x2 x3 x4
noncomputable def n46_2 (K : Nat) : Lent := ⟨[0, 1, 7, 9], i46_2, [49, 50, 51, 52, 10, 11, 55, 56, 57, 58, 61, 62, 63, 64, 65, 66, 67, 68, 69, 70, 71, 72, 73, 74, 75, 76, 77, 59, 60, 78, 79, 80, 81, 82, 83, 84, 4, 5, 53, 54], [2], true, res46, fun x => impll46_2 K K x.1 x.2.1 x.2.2.1 x.2.2.2.1, []⟩
theorem q46_2 (K : Nat) (rc : (List (Int × (Int × Int))) → (List (Int × Int)) → Int → Int → Option (Sum (Int × Unit) (Int × Int × Unit))) (x1 : (List (Int × (Int × Int)))) (x2 : (List (Int × Int))) (x3 : Int) (x4 : Int) : evLoop (L46_2 K) 3 46 Try.f46.results.toList (loopOf 2 (codeOf Try.f46)) 2 [0, 1, 7, 9] [] i46_2 [2] true res46 (fun x => rc x.1 x.2.1 x.2.2.1 x.2.2.2.1) (x1, x2, x3, x4, ()) = implb46_2 K rc x1 x2 x3 x4 := by kernel_rfl
theorem lp46_2 : loopsIn (loopOf 2 (codeOf Try.f46)) 2 = [(4, loopOf 4 (codeOf Try.f46))] := by kernel_rfl
theorem n46_2_ok (K : Nat) : LentOk Try.prog Try.f46 (loopOf 2 (codeOf Try.f46)) (n46_2 K) := lentOk_k (slots := [0, 1, 7, 9]) (ali := []) (ins := i46_2) (writes := [49, 50, 51, 52, 10, 11, 55, 56, 57, 58, 61, 62, 63, 64, 65, 66, 67, 68, 69, 70, 71, 72, 73, 74, 75, 76, 77, 59, 60, 78, 79, 80, 81, 82, 83, 84, 4, 5, 53, 54]) (exits := [2]) (rets := true) (rs := res46) (lib46_2 K) lp46_2 ⟨one_lent (n46_4_ok K), trivial⟩ (by kernel_rfl) (by kernel_rfl) (by kernel_rfl) (by kernel_rfl) (by kernel_rfl) (fun k x => impll46_2 K k x.1 x.2.1 x.2.2.1 x.2.2.2.1) (fun _ => rfl) (fun k x => q46_2 K (impll46_2 K k) x.1 x.2.1 x.2.2.1 x.2.2.2.1) K
noncomputable def L46_3 (K : Nat) : Lib := mkLib ti [(25, [e25 K]), (65, [e65 K]), (83, [e83 K])] [] 46 [(0, [n46_0 K]), (4, [n46_4 K]), (2, [n46_2 K])]
theorem lib46_3 (K : Nat) : LibOk Try.prog (L46_3 K) := libOk_mk (ents := [(25, [e25 K]), (65, [e65 K]), (83, [e83 K])]) (bodies := []) (loops := [(0, [n46_0 K]), (4, [n46_4 K]), (2, [n46_2 K])]) order tiOk ⟨one_ent (e25_ok K), one_ent (e65_ok K), one_ent (e83_ok K), trivial⟩ trivial Try.func46 rfl lp46 ⟨one_lent (n46_0_ok K), one_lent (n46_2_ok K), one_lent (n46_4_ok K), trivial⟩
noncomputable def implf46 (K : Nat) (x1 : (List (Int × (Int × Int)))) (x2 : (List (Int × Int))) : Option (Int × Int) :=
  (ob (implf25 K x1) fun y1 => (bif y1 != (0 : Int) then some (((0 : Int), y1)) else (bif decide ((↑x2.length : Int) > (12 : Int)) then some (((0 : Int), (3 : Int))) else (ob (impll46_0 K K x1 x2 ((0 : Int)) ((0 : Int))) fun y2 => (match y2 with | .inl y3 => (ob (impll46_2 K K x1 x2 y3.1 ((0 : Int))) fun y4 => (match y4 with | .inl y5 => some ((y3.1, (0 : Int))) | .inr y5 => some ((y5.1, y5.2.1)))) | .inr y3 => some ((y3.1, y3.2.1)))))))
theorem q46 (K : Nat) (x1 : (List (Int × (Int × Int)))) (x2 : (List (Int × Int))) : evFnK (α := Int × Int) (L46_3 K) 3 46 Try.f46.results.toList (codeOf Try.f46) ins46 res46 (fun p => (p.1.1, p.1.2.1)) (x1, x2, ()) = implf46 K x1 x2 := by kernel_rfl
noncomputable def e46 (K : Nat) : Ent := ⟨ins46, res46, Int × Int, fun x => implf46 K x.1 x.2.1, fun _ => (fun y => ((y.1, y.2, ()), (()))), false⟩
theorem e46_ok (K : Nat) : EntOk Try.prog 46 (e46 K) := entOk_k (ins := ins46) (rs := res46) (α := Int × Int) (lib46_3 K) (d := 3) Try.func46 rfl (by kernel_rfl) (by kernel_rfl) (by kernel_rfl) (fun x => implf46 K x.1 x.2.1) (fun p => (p.1.1, p.1.2.1)) (fun y => ((y.1, y.2, ()), (()))) (fun _ => rfl) (fun x => q46 K x.1 x.2.1)

/-! diaphone/diaphonelaw04.WatchPays -/
abbrev ins10 : Fs := [(.dat (.sl (.pr (.int .i64) (.pr (.int .i64) (.int .i64)))), false)]
abbrev res10 : Sh := .dat (.bool)
theorem lp10 : loopsIn (codeOf Try.f10) 0 = [] := by kernel_rfl
noncomputable def L10_0 (K : Nat) : Lib := mkLib ti [(19, [e19 K]), (20, [e20 K]), (25, [e25 K]), (27, [e27 K]), (41, [e41 K]), (46, [e46 K])] [] 10 []
theorem lib10_0 (K : Nat) : LibOk Try.prog (L10_0 K) := libOk_mk (ents := [(19, [e19 K]), (20, [e20 K]), (25, [e25 K]), (27, [e27 K]), (41, [e41 K]), (46, [e46 K])]) (bodies := []) (loops := []) order tiOk ⟨one_ent (e19_ok K), one_ent (e20_ok K), one_ent (e25_ok K), one_ent (e27_ok K), one_ent (e41_ok K), one_ent (e46_ok K), trivial⟩ trivial Try.func10 rfl lp10 trivial
noncomputable def implf10 (K : Nat) (x1 : (List (Int × (Int × Int)))) : Option (Bool) :=
  (ob (implf19 K x1 []) fun y1 => (bif y1 then (ob (implf20 K) fun y2 => some (y2)) else (ob (implf41 K x1) fun y3 => (ob (implf25 K x1) fun y4 => (bif y3.2 != y4 then some (false) else (bif y3.2 != (0 : Int) then (bif (↑y3.1.length : Int) == (0 : Int) then (ob (implf20 K) fun y5 => some (y5)) else some (false)) else (ob (implf46 K x1 y3.1) fun y6 => (ob (implf27 K x1) fun y7 => (bif y6.2 == (0 : Int) then (bif y6.1 == y7.2 then (ob (implf20 K) fun y8 => some (y8)) else some (false)) else some (false))))))))))
theorem q10 (K : Nat) (x1 : (List (Int × (Int × Int)))) : evFnK (α := Bool) (L10_0 K) 3 10 Try.f10.results.toList (codeOf Try.f10) ins10 res10 (fun p => p.1) (x1, ()) = implf10 K x1 := by kernel_rfl
noncomputable def e10 (K : Nat) : Ent := ⟨ins10, res10, Bool, fun x => implf10 K x.1, fun _ => (fun y => (y, (()))), false⟩
theorem e10_ok (K : Nat) : EntOk Try.prog 10 (e10 K) := entOk_k (ins := ins10) (rs := res10) (α := Bool) (lib10_0 K) (d := 3) Try.func10 rfl (by kernel_rfl) (by kernel_rfl) (by kernel_rfl) (fun x => implf10 K x.1) (fun p => p.1) (fun y => (y, (()))) (fun _ => rfl) (fun x => q10 K x.1)

/-! diaphone/diaphonelaw04.WatchAlone -/
abbrev ins11 : Fs := [(.dat (.sl (.pr (.int .i64) (.pr (.int .i64) (.int .i64)))), false)]
abbrev res11 : Sh := .dat (.bool)
theorem lp11 : loopsIn (codeOf Try.f11) 0 = [] := by kernel_rfl
noncomputable def L11_0 (K : Nat) : Lib := mkLib ti [(19, [e19 K]), (20, [e20 K]), (25, [e25 K]), (26, [e26 K]), (27, [e27 K]), (40, [e40 K])] [] 11 []
theorem lib11_0 (K : Nat) : LibOk Try.prog (L11_0 K) := libOk_mk (ents := [(19, [e19 K]), (20, [e20 K]), (25, [e25 K]), (26, [e26 K]), (27, [e27 K]), (40, [e40 K])]) (bodies := []) (loops := []) order tiOk ⟨one_ent (e19_ok K), one_ent (e20_ok K), one_ent (e25_ok K), one_ent (e26_ok K), one_ent (e27_ok K), one_ent (e40_ok K), trivial⟩ trivial Try.func11 rfl lp11 trivial
noncomputable def implf11 (K : Nat) (x1 : (List (Int × (Int × Int)))) : Option (Bool) :=
  (ob (implf19 K x1 []) fun y1 => (bif y1 then (ob (implf20 K) fun y2 => some (y2)) else (ob (implf40 K x1) fun y3 => (ob (implf25 K x1) fun y4 => (bif y3.2 != y4 then some (false) else (bif y3.2 != (0 : Int) then (bif (↑y3.1.length : Int) == (0 : Int) then (ob (implf20 K) fun y5 => some (y5)) else some (false)) else (ob (implf26 K x1 y3.1) fun y6 => (ob (implf27 K x1) fun y7 => (bif y6.2 == (0 : Int) then (bif y6.1 == y7.1 then (ob (implf20 K) fun y8 => some (y8)) else some (false)) else some (false))))))))))
theorem q11 (K : Nat) (x1 : (List (Int × (Int × Int)))) : evFnK (α := Bool) (L11_0 K) 3 11 Try.f11.results.toList (codeOf Try.f11) ins11 res11 (fun p => p.1) (x1, ()) = implf11 K x1 := by kernel_rfl
noncomputable def e11 (K : Nat) : Ent := ⟨ins11, res11, Bool, fun x => implf11 K x.1, fun _ => (fun y => (y, (()))), false⟩
theorem e11_ok (K : Nat) : EntOk Try.prog 11 (e11 K) := entOk_k (ins := ins11) (rs := res11) (α := Bool) (lib11_0 K) (d := 3) Try.func11 rfl (by kernel_rfl) (by kernel_rfl) (by kernel_rfl) (fun x => implf11 K x.1) (fun p => p.1) (fun y => (y, (()))) (fun _ => rfl) (fun x => q11 K x.1)

/-! slices.Clone[[]diaphone/api.Shift,diaphone/api.Shift] -/
abbrev ins89 : Fs := [(.dat (.sl (.pr (.int .i64) (.pr (.int .i64) (.int .i64)))), false)]
abbrev res89 : Sh := .own (.pr (.int .i64) (.pr (.int .i64) (.int .i64)))
noncomputable def implf89 (K : Nat) (x1 : List (Int × Int × Int)) : Option (List (Int × Int × Int)) := if ((List.replicate 0 (Ty.dflt (.pr (.int .i64) (.pr (.int .i64) (.int .i64))))).length + x1.length) * 24 ≤ 140737488355328 then some (List.replicate 0 (Ty.dflt (.pr (.int .i64) (.pr (.int .i64) (.int .i64)))) ++ x1) else none
noncomputable def e89 (K : Nat) : Ent := ⟨ins89, res89, List (Int × Int × Int), fun x => implf89 K x.1, fun _ => (fun y => (y, ())), false⟩
noncomputable def CC89 : Code := match codeOf Try.f89 with | .seq _ (.seq (.seq _ (.cond _ x _)) _) => x | _ => .skip
noncomputable def YY89 : Code := match codeOf Try.f89 with | .seq _ (.seq _ y) => y | _ => .skip
noncomputable def L89_0 (K : Nat) : Lib := mkLib ti [] [] 89 []
theorem lp89 : loopsIn (codeOf Try.f89) 0 = [] := by kernel_rfl
theorem lib89_0 (K : Nat) : LibOk Try.prog (L89_0 K) := libOk_mk (ents := []) (bodies := []) (loops := []) order tiOk trivial trivial Try.func89 rfl lp89 trivial
theorem e89_ok (K : Nat) : EntOk Try.prog 89 (e89 K) := by
  refine clone_ok (e := .pr (.int .i64) (.pr (.int .i64) (.int .i64))) (rs := .own (.pr (.int .i64) (.pr (.int .i64) (.int .i64)))) (lib89_0 K) Try.func89 rfl (by kernel_rfl) (by kernel_rfl) lp89 Try.underlying22 rfl (fun x => implf89 K x) (fun y => (y, ())) (fun xs => by kernel_rfl) ?_
  intro xs b y hy hb
  cases b with
  | true =>
    have := hb rfl
    subst this
    have : y = [] := by
      unfold implf89 at hy
      split at hy
      · cases hy; rfl
      · cases hy
    subst this
    refine Eq.trans (b := some (([] : List (Int × Int × Int)), ())) ?_ rfl
    kernel_rfl
  | false =>
    unfold implf89 at hy
    split at hy
    · rename_i h
      cases hy
      have e1 : ∀ xs : List (Int × Int × Int), ev (L89_0 K) (inPlace (L89_0 K) 1) 89 Try.f89.results.toList (.seq (.cond (.tmp 4) CC89 .skip) YY89) 0 (fun ex st => match ex with | .normal => ob (resAV (L89_0 K) st Try.f89.results.toList) fun v => finish [(.dat (.sl (.pr (.int .i64) (.pr (.int .i64) (.int .i64)))), false)] (.own (.pr (.int .i64) (.pr (.int .i64) (.int .i64)))) (.cons (.dat (.sl (.pr (.int .i64) (.pr (.int .i64) (.int .i64)))) xs) .un) [] (resOne v) st | _ => none) (fun v st => finish [(.dat (.sl (.pr (.int .i64) (.pr (.int .i64) (.int .i64)))), false)] (.own (.pr (.int .i64) (.pr (.int .i64) (.int .i64)))) (.cons (.dat (.sl (.pr (.int .i64) (.pr (.int .i64) (.int .i64)))) xs) .un) [] v st) ⟨[(4, .dat .bool false), (3, .dat (.sl (.pr (.int .i64) (.pr (.int .i64) (.int .i64)))) xs), (2, .nil), (0, .dat (.sl (.pr (.int .i64) (.pr (.int .i64) (.int .i64)))) xs)], [], 0⟩ = (if ((List.replicate 0 (Ty.dflt (.pr (.int .i64) (.pr (.int .i64) (.int .i64))))).length + xs.length) * 24 ≤ 140737488355328 then some (List.replicate 0 (Ty.dflt (.pr (.int .i64) (.pr (.int .i64) (.int .i64)))) ++ xs, ()) else none) := fun xs => by kernel_rfl
      exact (e1 xs).trans (if_pos h)
    · cases hy

/-! diaphone/watch.Stretch -/
abbrev ins47 : Fs := [(.dat (.sl (.pr (.int .i64) (.pr (.int .i64) (.int .i64)))), false), (.dat (.int .i64), false), (.dat (.int .i64), false)]
abbrev res47 : Sh := .cons (.own (.pr (.int .i64) (.pr (.int .i64) (.int .i64)))) (.cons (.dat (.int .i64)) (.un))
theorem lp47 : loopsIn (codeOf Try.f47) 0 = [] := by kernel_rfl
noncomputable def L47_0 (K : Nat) : Lib := mkLib ti [(60, [e60 K]), (75, [e75 K]), (77, [e77 K]), (89, [e89 K])] [] 47 []
theorem lib47_0 (K : Nat) : LibOk Try.prog (L47_0 K) := libOk_mk (ents := [(60, [e60 K]), (75, [e75 K]), (77, [e77 K]), (89, [e89 K])]) (bodies := []) (loops := []) order tiOk ⟨one_ent (e60_ok K), one_ent (e75_ok K), one_ent (e77_ok K), one_ent (e89_ok K), trivial⟩ trivial Try.func47 rfl lp47 trivial
noncomputable def implf47 (K : Nat) (x1 : (List (Int × (Int × Int)))) (x2 : Int) (x3 : Int) : Option ((List (Int × (Int × Int))) × Int) :=
  (ob (implf75 K x1 ((List.replicate 1 ((0 : Int))).set 0 x2)) fun y1 => (bif y1 != (0 : Int) then some (([], y1)) else (ob (implf89 K x1) fun y2 => (ob (implf60 K x3 (-1000 : Int) ((1000 : Int))) fun y3 => (bif !y3 then some (([], (1 : Int))) else (if (0 : Int) ≤ x2 ∧ x2 < (↑y2.length : Int) then (if (0 : Int) ≤ x2 ∧ x2 < (↑y2.length : Int) then (if (0 : Int) ≤ x2 ∧ x2 < (↑(y2.set x2.toNat ((y2.getD x2.toNat ((0 : Int), (0 : Int), (0 : Int))).1, IntKind.i64.wrap ((y2.getD x2.toNat ((0 : Int), (0 : Int), (0 : Int))).2.1 + x3), (y2.getD x2.toNat ((0 : Int), (0 : Int), (0 : Int))).2.2)).length : Int) then (ob (implf77 K ((y2.set x2.toNat ((y2.getD x2.toNat ((0 : Int), (0 : Int), (0 : Int))).1, IntKind.i64.wrap ((y2.getD x2.toNat ((0 : Int), (0 : Int), (0 : Int))).2.1 + x3), (y2.getD x2.toNat ((0 : Int), (0 : Int), (0 : Int))).2.2)).getD x2.toNat ((0 : Int), (0 : Int), (0 : Int)))) fun y4 => (bif !y4 then some (([], (1 : Int))) else some ((y2.set x2.toNat ((y2.getD x2.toNat ((0 : Int), (0 : Int), (0 : Int))).1, IntKind.i64.wrap ((y2.getD x2.toNat ((0 : Int), (0 : Int), (0 : Int))).2.1 + x3), (y2.getD x2.toNat ((0 : Int), (0 : Int), (0 : Int))).2.2), (0 : Int))))) else none) else none) else none))))))
theorem q47 (K : Nat) (x1 : (List (Int × (Int × Int)))) (x2 : Int) (x3 : Int) : evFnK (α := (List (Int × (Int × Int))) × Int) (L47_0 K) 3 47 Try.f47.results.toList (codeOf Try.f47) ins47 res47 (fun p => (p.1.1, p.1.2.1)) (x1, x2, x3, ()) = implf47 K x1 x2 x3 := by kernel_rfl
noncomputable def e47 (K : Nat) : Ent := ⟨ins47, res47, (List (Int × (Int × Int))) × Int, fun x => implf47 K x.1 x.2.1 x.2.2.1, fun _ => (fun y => ((y.1, y.2, ()), (()))), false⟩
theorem e47_ok (K : Nat) : EntOk Try.prog 47 (e47 K) := entOk_k (ins := ins47) (rs := res47) (α := (List (Int × (Int × Int))) × Int) (lib47_0 K) (d := 3) Try.func47 rfl (by kernel_rfl) (by kernel_rfl) (by kernel_rfl) (fun x => implf47 K x.1 x.2.1 x.2.2.1) (fun p => (p.1.1, p.1.2.1)) (fun y => ((y.1, y.2, ()), (()))) (fun _ => rfl) (fun x => q47 K x.1 x.2.1 x.2.2.1)

/-! diaphone/diaphoneref04.Stretch -/
abbrev ins48 : Fs := [(.dat (.sl (.pr (.int .i64) (.pr (.int .i64) (.int .i64)))), false), (.dat (.int .i64), false), (.dat (.int .i64), false)]
abbrev res48 : Sh := .cons (.own (.pr (.int .i64) (.pr (.int .i64) (.int .i64)))) (.cons (.dat (.int .i64)) (.un))
theorem lp48 : loopsIn (codeOf Try.f48) 0 = [] := by kernel_rfl
noncomputable def L48_0 (K : Nat) : Lib := mkLib ti [(65, [e65 K]), (72, [e72 K]), (76, [e76 K])] [] 48 []
theorem lib48_0 (K : Nat) : LibOk Try.prog (L48_0 K) := libOk_mk (ents := [(65, [e65 K]), (72, [e72 K]), (76, [e76 K])]) (bodies := []) (loops := []) order tiOk ⟨one_ent (e65_ok K), one_ent (e72_ok K), one_ent (e76_ok K), trivial⟩ trivial Try.func48 rfl lp48 trivial
noncomputable def implf48 (K : Nat) (x1 : (List (Int × (Int × Int)))) (x2 : Int) (x3 : Int) : Option ((List (Int × (Int × Int))) × Int) :=
  (ob (implf76 K x1 x2) fun y1 => (bif y1 != (0 : Int) then some (([], y1)) else (ob (implf65 K x3 (-1000 : Int) ((1000 : Int))) fun y2 => (bif !y2 then some (([], (1 : Int))) else (if ((List.replicate 0 ((0 : Int), (0 : Int), (0 : Int))).length + x1.length) * 24 ≤ 140737488355328 then (if (0 : Int) ≤ x2 ∧ x2 < (↑(List.replicate 0 ((0 : Int), (0 : Int), (0 : Int)) ++ x1).length : Int) then (if (0 : Int) ≤ x2 ∧ x2 < (↑(List.replicate 0 ((0 : Int), (0 : Int), (0 : Int)) ++ x1).length : Int) then (if (0 : Int) ≤ x2 ∧ x2 < (↑((List.replicate 0 ((0 : Int), (0 : Int), (0 : Int)) ++ x1).set x2.toNat (((List.replicate 0 ((0 : Int), (0 : Int), (0 : Int)) ++ x1).getD x2.toNat ((0 : Int), (0 : Int), (0 : Int))).1, IntKind.i64.wrap (((List.replicate 0 ((0 : Int), (0 : Int), (0 : Int)) ++ x1).getD x2.toNat ((0 : Int), (0 : Int), (0 : Int))).2.1 + x3), ((List.replicate 0 ((0 : Int), (0 : Int), (0 : Int)) ++ x1).getD x2.toNat ((0 : Int), (0 : Int), (0 : Int))).2.2)).length : Int) then (ob (implf72 K (((List.replicate 0 ((0 : Int), (0 : Int), (0 : Int)) ++ x1).set x2.toNat (((List.replicate 0 ((0 : Int), (0 : Int), (0 : Int)) ++ x1).getD x2.toNat ((0 : Int), (0 : Int), (0 : Int))).1, IntKind.i64.wrap (((List.replicate 0 ((0 : Int), (0 : Int), (0 : Int)) ++ x1).getD x2.toNat ((0 : Int), (0 : Int), (0 : Int))).2.1 + x3), ((List.replicate 0 ((0 : Int), (0 : Int), (0 : Int)) ++ x1).getD x2.toNat ((0 : Int), (0 : Int), (0 : Int))).2.2)).getD x2.toNat ((0 : Int), (0 : Int), (0 : Int)))) fun y3 => (bif !y3 then some (([], (1 : Int))) else some (((List.replicate 0 ((0 : Int), (0 : Int), (0 : Int)) ++ x1).set x2.toNat (((List.replicate 0 ((0 : Int), (0 : Int), (0 : Int)) ++ x1).getD x2.toNat ((0 : Int), (0 : Int), (0 : Int))).1, IntKind.i64.wrap (((List.replicate 0 ((0 : Int), (0 : Int), (0 : Int)) ++ x1).getD x2.toNat ((0 : Int), (0 : Int), (0 : Int))).2.1 + x3), ((List.replicate 0 ((0 : Int), (0 : Int), (0 : Int)) ++ x1).getD x2.toNat ((0 : Int), (0 : Int), (0 : Int))).2.2), (0 : Int))))) else none) else none) else none) else none)))))
theorem q48 (K : Nat) (x1 : (List (Int × (Int × Int)))) (x2 : Int) (x3 : Int) : evFnK (α := (List (Int × (Int × Int))) × Int) (L48_0 K) 3 48 Try.f48.results.toList (codeOf Try.f48) ins48 res48 (fun p => (p.1.1, p.1.2.1)) (x1, x2, x3, ()) = implf48 K x1 x2 x3 := by kernel_rfl
noncomputable def e48 (K : Nat) : Ent := ⟨ins48, res48, (List (Int × (Int × Int))) × Int, fun x => implf48 K x.1 x.2.1 x.2.2.1, fun _ => (fun y => ((y.1, y.2, ()), (()))), false⟩
theorem e48_ok (K : Nat) : EntOk Try.prog 48 (e48 K) := entOk_k (ins := ins48) (rs := res48) (α := (List (Int × (Int × Int))) × Int) (lib48_0 K) (d := 3) Try.func48 rfl (by kernel_rfl) (by kernel_rfl) (by kernel_rfl) (fun x => implf48 K x.1 x.2.1 x.2.2.1) (fun p => (p.1.1, p.1.2.1)) (fun y => ((y.1, y.2, ()), (()))) (fun _ => rfl) (fun x => q48 K x.1 x.2.1 x.2.2.1)

/-! diaphone/diaphoneref04.SameShifts -/
abbrev ins49 : Fs := [(.dat (.sl (.pr (.int .i64) (.pr (.int .i64) (.int .i64)))), false), (.dat (.sl (.pr (.int .i64) (.pr (.int .i64) (.int .i64)))), false)]
abbrev res49 : Sh := .dat (.bool)
theorem lp49 : loopsIn (codeOf Try.f49) 0 = [(0, loopOf 0 (codeOf Try.f49))] := by kernel_rfl
noncomputable def L49_0 (K : Nat) : Lib := mkLib ti [] [] 49 []
theorem lib49_0 (K : Nat) : LibOk Try.prog (L49_0 K) := libOk_mk (ents := []) (bodies := []) (loops := []) order tiOk trivial trivial Try.func49 rfl lp49 ⟨no_lent, trivial⟩
abbrev i49_0 : Fs := [(.dat (.sl (.pr (.int Go.IntKind.i64) (.pr (.int Go.IntKind.i64) (.int Go.IntKind.i64)))), false), (.dat (.sl (.pr (.int Go.IntKind.i64) (.pr (.int Go.IntKind.i64) (.int Go.IntKind.i64)))), false), (.dat (.int Go.IntKind.i64), true)]
noncomputable def implb49_0 (K : Nat) (rc : (List (Int × (Int × Int))) → (List (Int × (Int × Int))) → Int → Option (Sum (Int × Unit) Bool)) (x1 : (List (Int × (Int × Int)))) (x2 : (List (Int × (Int × Int)))) (x3 : Int) : Option (Sum (Int × Unit) Bool) :=
  (bif decide (x3 < (↑x1.length : Int)) then (if (0 : Int) ≤ x3 ∧ x3 < (↑x1.length : Int) then (if (0 : Int) ≤ x3 ∧ x3 < (↑x2.length : Int) then none else none) else none) else some (Sum.inl (x3, ())))
noncomputable def impll49_0 (K : Nat) : Nat → (List (Int × (Int × Int))) → (List (Int × (Int × Int))) → Int → Option (Sum (Int × Unit) Bool)
  | 0, _, _, _ => none
  | k + 1, x1, x2, x3 => implb49_0 K (impll49_0 K k) x1 x2 x3
noncomputable def n49_0 (K : Nat) : Lent := ⟨[0, 1, 5], i49_0, [11, 12, 13, 14, 17, 18, 19, 20, 21, 22, 23, 24, 25, 4, 15, 16], [0], true, res49, fun x => impll49_0 K K x.1 x.2.1 x.2.2.1, []⟩
theorem q49_0 (K : Nat) (rc : (List (Int × (Int × Int))) → (List (Int × (Int × Int))) → Int → Option (Sum (Int × Unit) Bool)) (x1 : (List (Int × (Int × Int)))) (x2 : (List (Int × (Int × Int)))) (x3 : Int) : evLoop (L49_0 K) 3 49 Try.f49.results.toList (loopOf 0 (codeOf Try.f49)) 0 [0, 1, 5] [] i49_0 [0] true res49 (fun x => rc x.1 x.2.1 x.2.2.1) (x1, x2, x3, ()) = implb49_0 K rc x1 x2 x3 := by kernel_rfl
theorem lp49_0 : loopsIn (loopOf 0 (codeOf Try.f49)) 0 = [] := by kernel_rfl
theorem n49_0_ok (K : Nat) : LentOk Try.prog Try.f49 (loopOf 0 (codeOf Try.f49)) (n49_0 K) := lentOk_k (slots := [0, 1, 5]) (ali := []) (ins := i49_0) (writes := [11, 12, 13, 14, 17, 18, 19, 20, 21, 22, 23, 24, 25, 4, 15, 16]) (exits := [0]) (rets := true) (rs := res49) (lib49_0 K) lp49_0 trivial (by kernel_rfl) (by kernel_rfl) (by kernel_rfl) (by kernel_rfl) (by kernel_rfl) (fun k x => impll49_0 K k x.1 x.2.1 x.2.2.1) (fun _ => rfl) (fun k x => q49_0 K (impll49_0 K k) x.1 x.2.1 x.2.2.1) K
noncomputable def L49_1 (K : Nat) : Lib := mkLib ti [] [] 49 [(0, [n49_0 K])]
theorem lib49_1 (K : Nat) : LibOk Try.prog (L49_1 K) := libOk_mk (ents := []) (bodies := []) (loops := [(0, [n49_0 K])]) order tiOk trivial trivial Try.func49 rfl lp49 ⟨one_lent (n49_0_ok K), trivial⟩
noncomputable def implf49 (K : Nat) (x1 : (List (Int × (Int × Int)))) (x2 : (List (Int × (Int × Int)))) : Option (Bool) :=
  (bif (↑x1.length : Int) != (↑x2.length : Int) then some (false) else (ob (impll49_0 K K x1 x2 ((0 : Int))) fun y1 => (match y1 with | .inl y2 => some (true) | .inr y2 => some (y2))))
theorem q49 (K : Nat) (x1 : (List (Int × (Int × Int)))) (x2 : (List (Int × (Int × Int)))) : evFnK (α := Bool) (L49_1 K) 3 49 Try.f49.results.toList (codeOf Try.f49) ins49 res49 (fun p => p.1) (x1, x2, ()) = implf49 K x1 x2 := by kernel_rfl
noncomputable def e49 (K : Nat) : Ent := ⟨ins49, res49, Bool, fun x => implf49 K x.1 x.2.1, fun _ => (fun y => (y, (()))), false⟩
theorem e49_ok (K : Nat) : EntOk Try.prog 49 (e49 K) := entOk_k (ins := ins49) (rs := res49) (α := Bool) (lib49_1 K) (d := 3) Try.func49 rfl (by kernel_rfl) (by kernel_rfl) (by kernel_rfl) (fun x => implf49 K x.1 x.2.1) (fun p => p.1) (fun y => (y, (()))) (fun _ => rfl) (fun x => q49 K x.1 x.2.1)

/-! diaphone/diaphonelaw04.WatchStretches -/
abbrev ins12 : Fs := [(.dat (.sl (.pr (.int .i64) (.pr (.int .i64) (.int .i64)))), false), (.dat (.int .i64), false), (.dat (.int .i64), false)]
abbrev res12 : Sh := .dat (.bool)
theorem lp12 : loopsIn (codeOf Try.f12) 0 = [] := by kernel_rfl
noncomputable def L12_0 (K : Nat) : Lib := mkLib ti [(19, [e19 K]), (20, [e20 K]), (23, [e23 K]), (47, [e47 K]), (48, [e48 K]), (49, [e49 K])] [] 12 []
theorem lib12_0 (K : Nat) : LibOk Try.prog (L12_0 K) := libOk_mk (ents := [(19, [e19 K]), (20, [e20 K]), (23, [e23 K]), (47, [e47 K]), (48, [e48 K]), (49, [e49 K])]) (bodies := []) (loops := []) order tiOk ⟨one_ent (e19_ok K), one_ent (e20_ok K), one_ent (e23_ok K), one_ent (e47_ok K), one_ent (e48_ok K), one_ent (e49_ok K), trivial⟩ trivial Try.func12 rfl lp12 trivial
noncomputable def implf12 (K : Nat) (x1 : (List (Int × (Int × Int)))) (x2 : Int) (x3 : Int) : Option (Bool) :=
  (ob (implf19 K x1 []) fun y1 => (bif y1 then (ob (implf20 K) fun y2 => some (y2)) else (if ((List.replicate 0 ((0 : Int), (0 : Int), (0 : Int))).length + x1.length) * 24 ≤ 140737488355328 then (ob (implf47 K (List.replicate 0 ((0 : Int), (0 : Int), (0 : Int)) ++ x1) x2 x3) fun y3 => (ob (implf48 K x1 x2 x3) fun y4 => (ob (implf49 K y3.1 y4.1) fun y5 => (bif !y5 then some (false) else (bif y3.2 != y4.2 then some (false) else (ob (implf49 K (List.replicate 0 ((0 : Int), (0 : Int), (0 : Int)) ++ x1) x1) fun y6 => (bif !y6 then some (false) else (bif y3.2 != (0 : Int) then (ob (implf20 K) fun y7 => some (y7)) else (bif decide (x3 < (0 : Int)) then (ob (implf20 K) fun y8 => some (y8)) else (ob (implf23 K y3.1) fun y9 => (ob (implf23 K x1) fun y10 => (bif y9.2.2 == (0 : Int) then (bif y10.2.2 == (0 : Int) then (bif decide (y9.2.1 ≥ y10.2.1) then (ob (implf20 K) fun y11 => some (y11)) else some (false)) else some (false)) else some (false))))))))))))) else none)))
theorem q12 (K : Nat) (x1 : (List (Int × (Int × Int)))) (x2 : Int) (x3 : Int) : evFnK (α := Bool) (L12_0 K) 3 12 Try.f12.results.toList (codeOf Try.f12) ins12 res12 (fun p => p.1) (x1, x2, x3, ()) = implf12 K x1 x2 x3 := by kernel_rfl
noncomputable def e12 (K : Nat) : Ent := ⟨ins12, res12, Bool, fun x => implf12 K x.1 x.2.1 x.2.2.1, fun _ => (fun y => (y, (()))), false⟩
theorem e12_ok (K : Nat) : EntOk Try.prog 12 (e12 K) := entOk_k (ins := ins12) (rs := res12) (α := Bool) (lib12_0 K) (d := 3) Try.func12 rfl (by kernel_rfl) (by kernel_rfl) (by kernel_rfl) (fun x => implf12 K x.1 x.2.1 x.2.2.1) (fun p => p.1) (fun y => (y, (()))) (fun _ => rfl) (fun x => q12 K x.1 x.2.1 x.2.2.1)

/-! diaphone/diaphonelaw04.WatchPosts -/
abbrev ins13 : Fs := [(.dat (.sl (.pr (.int .i64) (.pr (.int .i64) (.int .i64)))), false), (.dat (.sl (.pr (.int .i64) (.int .i64))), false)]
abbrev res13 : Sh := .dat (.bool)
theorem lp13 : loopsIn (codeOf Try.f13) 0 = [] := by kernel_rfl
noncomputable def L13_0 (K : Nat) : Lib := mkLib ti [(19, [e19 K]), (20, [e20 K]), (24, [e24 K]), (44, [e44 K]), (46, [e46 K])] [] 13 []
theorem lib13_0 (K : Nat) : LibOk Try.prog (L13_0 K) := libOk_mk (ents := [(19, [e19 K]), (20, [e20 K]), (24, [e24 K]), (44, [e44 K]), (46, [e46 K])]) (bodies := []) (loops := []) order tiOk ⟨one_ent (e19_ok K), one_ent (e20_ok K), one_ent (e24_ok K), one_ent (e44_ok K), one_ent (e46_ok K), trivial⟩ trivial Try.func13 rfl lp13 trivial
noncomputable def implf13 (K : Nat) (x1 : (List (Int × (Int × Int)))) (x2 : (List (Int × Int))) : Option (Bool) :=
  (ob (implf19 K x1 []) fun y1 => (bif y1 then (ob (implf20 K) fun y2 => some (y2)) else (bif decide ((↑x2.length : Int) > (100 : Int)) then (ob (implf20 K) fun y3 => some (y3)) else (ob (implf44 K x1 x2) fun y4 => (ob (implf46 K x1 x2) fun y5 => (bif y4.1 != y5.1 then some (false) else (bif y4.2 != y5.2 then some (false) else (ob (implf24 K x1) fun y6 => (bif y4.2 != (0 : Int) then (ob (implf20 K) fun y7 => some (y7)) else (bif y6.2.2 == (0 : Int) then (bif decide (y4.1 ≥ y6.2.1) then (ob (implf20 K) fun y8 => some (y8)) else some (false)) else some (false)))))))))))
theorem q13 (K : Nat) (x1 : (List (Int × (Int × Int)))) (x2 : (List (Int × Int))) : evFnK (α := Bool) (L13_0 K) 3 13 Try.f13.results.toList (codeOf Try.f13) ins13 res13 (fun p => p.1) (x1, x2, ()) = implf13 K x1 x2 := by kernel_rfl
noncomputable def e13 (K : Nat) : Ent := ⟨ins13, res13, Bool, fun x => implf13 K x.1 x.2.1, fun _ => (fun y => (y, (()))), false⟩
theorem e13_ok (K : Nat) : EntOk Try.prog 13 (e13 K) := entOk_k (ins := ins13) (rs := res13) (α := Bool) (lib13_0 K) (d := 3) Try.func13 rfl (by kernel_rfl) (by kernel_rfl) (by kernel_rfl) (fun x => implf13 K x.1 x.2.1) (fun p => p.1) (fun y => (y, (()))) (fun _ => rfl) (fun x => q13 K x.1 x.2.1)

/-! diaphone/diaphonelaw04.WatchLooks -/
abbrev ins14 : Fs := [(.dat (.sl (.pr (.int .i64) (.pr (.int .i64) (.int .i64)))), false), (.dat (.sl (.int .i64)), false)]
abbrev res14 : Sh := .dat (.bool)
theorem lp14 : loopsIn (codeOf Try.f14) 0 = [] := by kernel_rfl
noncomputable def L14_0 (K : Nat) : Lib := mkLib ti [(19, [e19 K]), (20, [e20 K]), (38, [e38 K]), (40, [e40 K]), (43, [e43 K])] [] 14 []
theorem lib14_0 (K : Nat) : LibOk Try.prog (L14_0 K) := libOk_mk (ents := [(19, [e19 K]), (20, [e20 K]), (38, [e38 K]), (40, [e40 K]), (43, [e43 K])]) (bodies := []) (loops := []) order tiOk ⟨one_ent (e19_ok K), one_ent (e20_ok K), one_ent (e38_ok K), one_ent (e40_ok K), one_ent (e43_ok K), trivial⟩ trivial Try.func14 rfl lp14 trivial
noncomputable def implf14 (K : Nat) (x1 : (List (Int × (Int × Int)))) (x2 : (List Int)) : Option (Bool) :=
  (ob (implf19 K x1 ((List.replicate 1 []).set 0 x2)) fun y1 => (bif y1 then (ob (implf20 K) fun y2 => some (y2)) else (ob (implf43 K x1 x2) fun y3 => (ob (implf38 K x1 x2) fun y4 => (bif y3.1 != y4.1 then some (false) else (bif y3.2 != y4.2 then some (false) else (ob (implf40 K x1) fun y5 => (bif y3.2 != (0 : Int) then (ob (implf20 K) fun y6 => some (y6)) else (bif y5.2 == (0 : Int) then (bif decide (y3.1 ≥ (↑y5.1.length : Int)) then (ob (implf20 K) fun y7 => some (y7)) else some (false)) else some (false))))))))))
theorem q14 (K : Nat) (x1 : (List (Int × (Int × Int)))) (x2 : (List Int)) : evFnK (α := Bool) (L14_0 K) 3 14 Try.f14.results.toList (codeOf Try.f14) ins14 res14 (fun p => p.1) (x1, x2, ()) = implf14 K x1 x2 := by kernel_rfl
noncomputable def e14 (K : Nat) : Ent := ⟨ins14, res14, Bool, fun x => implf14 K x.1 x.2.1, fun _ => (fun y => (y, (()))), false⟩
theorem e14_ok (K : Nat) : EntOk Try.prog 14 (e14 K) := entOk_k (ins := ins14) (rs := res14) (α := Bool) (lib14_0 K) (d := 3) Try.func14 rfl (by kernel_rfl) (by kernel_rfl) (by kernel_rfl) (fun x => implf14 K x.1 x.2.1) (fun p => p.1) (fun y => (y, (()))) (fun _ => rfl) (fun x => q14 K x.1 x.2.1)

/-! diaphone/diaphonelaw04.WatchSets -/
abbrev ins15 : Fs := [(.dat (.sl (.pr (.int .i64) (.pr (.int .i64) (.int .i64)))), false), (.dat (.sl (.int .i64)), false)]
abbrev res15 : Sh := .dat (.bool)
theorem lp15 : loopsIn (codeOf Try.f15) 0 = [] := by kernel_rfl
noncomputable def L15_0 (K : Nat) : Lib := mkLib ti [(19, [e19 K]), (20, [e20 K]), (24, [e24 K]), (26, [e26 K]), (28, [e28 K]), (40, [e40 K]), (42, [e42 K])] [] 15 []
theorem lib15_0 (K : Nat) : LibOk Try.prog (L15_0 K) := libOk_mk (ents := [(19, [e19 K]), (20, [e20 K]), (24, [e24 K]), (26, [e26 K]), (28, [e28 K]), (40, [e40 K]), (42, [e42 K])]) (bodies := []) (loops := []) order tiOk ⟨one_ent (e19_ok K), one_ent (e20_ok K), one_ent (e24_ok K), one_ent (e26_ok K), one_ent (e28_ok K), one_ent (e40_ok K), one_ent (e42_ok K), trivial⟩ trivial Try.func15 rfl lp15 trivial
noncomputable def implf15 (K : Nat) (x1 : (List (Int × (Int × Int)))) (x2 : (List Int)) : Option (Bool) :=
  (ob (implf19 K x1 ((List.replicate 1 []).set 0 x2)) fun y1 => (bif y1 then (ob (implf20 K) fun y2 => some (y2)) else (ob (implf42 K x1 x2) fun y3 => (ob (implf26 K x1 x2) fun y4 => (bif y3.1 != y4.1 then some (false) else (bif y3.2 != y4.2 then some (false) else (bif y3.2 != (0 : Int) then (ob (implf20 K) fun y5 => some (y5)) else (ob (implf40 K x1) fun y6 => (ob (implf24 K x1) fun y7 => (bif y6.2 == (0 : Int) then (bif decide (y3.1 ≤ (↑y6.1.length : Int)) then (bif y7.2.2 == (0 : Int) then (ob (implf28 K x1 x2) fun y8 => (bif decide (y8 ≤ y7.2.1) then (ob (implf20 K) fun y9 => some (y9)) else some (false))) else some (false)) else some (false)) else some (false)))))))))))
theorem q15 (K : Nat) (x1 : (List (Int × (Int × Int)))) (x2 : (List Int)) : evFnK (α := Bool) (L15_0 K) 3 15 Try.f15.results.toList (codeOf Try.f15) ins15 res15 (fun p => p.1) (x1, x2, ()) = implf15 K x1 x2 := by kernel_rfl
noncomputable def e15 (K : Nat) : Ent := ⟨ins15, res15, Bool, fun x => implf15 K x.1 x.2.1, fun _ => (fun y => (y, (()))), false⟩
theorem e15_ok (K : Nat) : EntOk Try.prog 15 (e15 K) := entOk_k (ins := ins15) (rs := res15) (α := Bool) (lib15_0 K) (d := 3) Try.func15 rfl (by kernel_rfl) (by kernel_rfl) (by kernel_rfl) (fun x => implf15 K x.1 x.2.1) (fun p => p.1) (fun y => (y, (()))) (fun _ => rfl) (fun x => q15 K x.1 x.2.1)

/-! diaphone/diaphoneref04.Covered -/
abbrev ins50 : Fs := [(.dat (.sl (.pr (.int .i64) (.pr (.int .i64) (.int .i64)))), false)]
abbrev res50 : Sh := .cons (.dat (.int .i64)) (.cons (.dat (.int .i64)) (.un))
theorem lp50 : loopsIn (codeOf Try.f50) 0 = [(0, loopOf 0 (codeOf Try.f50))] := by kernel_rfl
noncomputable def L50_0 (K : Nat) : Lib := mkLib ti [(25, [e25 K]), (80, [e80 K])] [] 50 []
theorem lib50_0 (K : Nat) : LibOk Try.prog (L50_0 K) := libOk_mk (ents := [(25, [e25 K]), (80, [e80 K])]) (bodies := []) (loops := []) order tiOk ⟨one_ent (e25_ok K), one_ent (e80_ok K), trivial⟩ trivial Try.func50 rfl lp50 ⟨no_lent, trivial⟩
abbrev i50_0 : Fs := [(.dat (.sl (.pr (.int Go.IntKind.i64) (.pr (.int Go.IntKind.i64) (.int Go.IntKind.i64)))), false), (.dat (.int Go.IntKind.i64), true), (.dat (.int Go.IntKind.i64), true)]
noncomputable def implb50_0 (K : Nat) (rc : (List (Int × (Int × Int))) → Int → Int → Option (Int × Int × Unit)) (x1 : (List (Int × (Int × Int)))) (x2 : Int) (x3 : Int) : Option (Int × Int × Unit) :=
  (bif decide (x3 < (1000 : Int)) then (ob (implf80 K x1 x3) fun y1 => (bif decide ((↑y1.length : Int) > (0 : Int)) then (rc x1 (IntKind.i64.wrap (x2 + (1 : Int))) (IntKind.i64.wrap (x3 + (1 : Int)))) else (rc x1 x2 (IntKind.i64.wrap (x3 + (1 : Int)))))) else some ((x2, x3, ())))
noncomputable def impll50_0 (K : Nat) : Nat → (List (Int × (Int × Int))) → Int → Int → Option (Int × Int × Unit)
  | 0, _, _, _ => none
  | k + 1, x1, x2, x3 => implb50_0 K (impll50_0 K k) x1 x2 x3
noncomputable def n50_0 (K : Nat) : Lent := ⟨[0, 5, 6], i50_0, [12, 13, 16, 17, 18, 19, 20, 21, 22, 14, 15], [0], false, res50, fun x => impll50_0 K K x.1 x.2.1 x.2.2.1, []⟩
theorem q50_0 (K : Nat) (rc : (List (Int × (Int × Int))) → Int → Int → Option (Int × Int × Unit)) (x1 : (List (Int × (Int × Int)))) (x2 : Int) (x3 : Int) : evLoop (L50_0 K) 3 50 Try.f50.results.toList (loopOf 0 (codeOf Try.f50)) 0 [0, 5, 6] [] i50_0 [0] false res50 (fun x => rc x.1 x.2.1 x.2.2.1) (x1, x2, x3, ()) = implb50_0 K rc x1 x2 x3 := by kernel_rfl
theorem lp50_0 : loopsIn (loopOf 0 (codeOf Try.f50)) 0 = [] := by kernel_rfl
theorem n50_0_ok (K : Nat) : LentOk Try.prog Try.f50 (loopOf 0 (codeOf Try.f50)) (n50_0 K) := lentOk_k (slots := [0, 5, 6]) (ali := []) (ins := i50_0) (writes := [12, 13, 16, 17, 18, 19, 20, 21, 22, 14, 15]) (exits := [0]) (rets := false) (rs := res50) (lib50_0 K) lp50_0 trivial (by kernel_rfl) (by kernel_rfl) (by kernel_rfl) (by kernel_rfl) (by kernel_rfl) (fun k x => impll50_0 K k x.1 x.2.1 x.2.2.1) (fun _ => rfl) (fun k x => q50_0 K (impll50_0 K k) x.1 x.2.1 x.2.2.1) K
noncomputable def L50_1 (K : Nat) : Lib := mkLib ti [(25, [e25 K]), (80, [e80 K])] [] 50 [(0, [n50_0 K])]
theorem lib50_1 (K : Nat) : LibOk Try.prog (L50_1 K) := libOk_mk (ents := [(25, [e25 K]), (80, [e80 K])]) (bodies := []) (loops := [(0, [n50_0 K])]) order tiOk ⟨one_ent (e25_ok K), one_ent (e80_ok K), trivial⟩ trivial Try.func50 rfl lp50 ⟨one_lent (n50_0_ok K), trivial⟩
noncomputable def implf50 (K : Nat) (x1 : (List (Int × (Int × Int)))) : Option (Int × Int) :=
  (ob (implf25 K x1) fun y1 => (bif y1 != (0 : Int) then some (((0 : Int), y1)) else (ob (impll50_0 K K x1 ((0 : Int)) ((0 : Int))) fun y2 => some ((y2.1, (0 : Int))))))
theorem q50 (K : Nat) (x1 : (List (Int × (Int × Int)))) : evFnK (α := Int × Int) (L50_1 K) 3 50 Try.f50.results.toList (codeOf Try.f50) ins50 res50 (fun p => (p.1.1, p.1.2.1)) (x1, ()) = implf50 K x1 := by kernel_rfl
noncomputable def e50 (K : Nat) : Ent := ⟨ins50, res50, Int × Int, fun x => implf50 K x.1, fun _ => (fun y => ((y.1, y.2, ()), (()))), false⟩
theorem e50_ok (K : Nat) : EntOk Try.prog 50 (e50 K) := entOk_k (ins := ins50) (rs := res50) (α := Int × Int) (lib50_1 K) (d := 3) Try.func50 rfl (by kernel_rfl) (by kernel_rfl) (by kernel_rfl) (fun x => implf50 K x.1) (fun p => (p.1.1, p.1.2.1)) (fun y => ((y.1, y.2, ()), (()))) (fun _ => rfl) (fun x => q50 K x.1)

/-! diaphone/diaphoneref04.Spells -/
abbrev ins51 : Fs := [(.dat (.sl (.pr (.int .i64) (.pr (.int .i64) (.int .i64)))), false)]
abbrev res51 : Sh := .cons (.own (.pr (.int .i64) (.pr (.int .i64) (.int .i64)))) (.cons (.dat (.int .i64)) (.un))
theorem lp51 : loopsIn (codeOf Try.f51) 0 = [(0, loopOf 0 (codeOf Try.f51))] := by kernel_rfl
noncomputable def L51_0 (K : Nat) : Lib := mkLib ti [(25, [e25 K]), (80, [e80 K])] [] 51 []
theorem lib51_0 (K : Nat) : LibOk Try.prog (L51_0 K) := libOk_mk (ents := [(25, [e25 K]), (80, [e80 K])]) (bodies := []) (loops := []) order tiOk ⟨one_ent (e25_ok K), one_ent (e80_ok K), trivial⟩ trivial Try.func51 rfl lp51 ⟨no_lent, trivial⟩
abbrev i51_0 : Fs := [(.dat (.sl (.pr (.int Go.IntKind.i64) (.pr (.int Go.IntKind.i64) (.int Go.IntKind.i64)))), false), (.own (.pr (.int .i64) (.pr (.int .i64) (.int .i64))), true), (.dat (.bool), true), (.dat (.int Go.IntKind.i64), true)]
noncomputable def implb51_0 (K : Nat) (rc : (List (Int × (Int × Int))) → (List (Int × (Int × Int))) → Bool → Int → Option ((List (Int × (Int × Int))) × Bool × Int × Unit)) (x1 : (List (Int × (Int × Int)))) (x2 : (List (Int × (Int × Int)))) (x3 : Bool) (x4 : Int) : Option ((List (Int × (Int × Int))) × Bool × Int × Unit) :=
  (bif decide (x4 ≤ (1000 : Int)) then (ob (implf80 K x1 x4) fun y1 => (bif decide ((↑y1.length : Int) > (0 : Int)) then (bif !x3 then (if (x2.length + ((List.replicate 1 ((0 : Int), (0 : Int), (0 : Int))).set 0 (x4, (0 : Int), (0 : Int))).length) * 24 ≤ 140737488355328 then (bif !decide ((↑y1.length : Int) > (0 : Int)) then (bif x3 then (if (0 : Int) ≤ IntKind.i64.wrap ((↑(x2 ++ (List.replicate 1 ((0 : Int), (0 : Int), (0 : Int))).set 0 (x4, (0 : Int), (0 : Int))).length : Int) - (1 : Int)) ∧ IntKind.i64.wrap ((↑(x2 ++ (List.replicate 1 ((0 : Int), (0 : Int), (0 : Int))).set 0 (x4, (0 : Int), (0 : Int))).length : Int) - (1 : Int)) < (↑(x2 ++ (List.replicate 1 ((0 : Int), (0 : Int), (0 : Int))).set 0 (x4, (0 : Int), (0 : Int))).length : Int) then (rc x1 ((x2 ++ (List.replicate 1 ((0 : Int), (0 : Int), (0 : Int))).set 0 (x4, (0 : Int), (0 : Int))).set (IntKind.i64.wrap ((↑(x2 ++ (List.replicate 1 ((0 : Int), (0 : Int), (0 : Int))).set 0 (x4, (0 : Int), (0 : Int))).length : Int) - (1 : Int))).toNat (((x2 ++ (List.replicate 1 ((0 : Int), (0 : Int), (0 : Int))).set 0 (x4, (0 : Int), (0 : Int))).getD (IntKind.i64.wrap ((↑(x2 ++ (List.replicate 1 ((0 : Int), (0 : Int), (0 : Int))).set 0 (x4, (0 : Int), (0 : Int))).length : Int) - (1 : Int))).toNat ((0 : Int), (0 : Int), (0 : Int))).1, x4, ((x2 ++ (List.replicate 1 ((0 : Int), (0 : Int), (0 : Int))).set 0 (x4, (0 : Int), (0 : Int))).getD (IntKind.i64.wrap ((↑(x2 ++ (List.replicate 1 ((0 : Int), (0 : Int), (0 : Int))).set 0 (x4, (0 : Int), (0 : Int))).length : Int) - (1 : Int))).toNat ((0 : Int), (0 : Int), (0 : Int))).2.2)) (decide ((↑y1.length : Int) > (0 : Int))) (IntKind.i64.wrap (x4 + (1 : Int)))) else none) else (rc x1 (x2 ++ (List.replicate 1 ((0 : Int), (0 : Int), (0 : Int))).set 0 (x4, (0 : Int), (0 : Int))) (decide ((↑y1.length : Int) > (0 : Int))) (IntKind.i64.wrap (x4 + (1 : Int))))) else (rc x1 (x2 ++ (List.replicate 1 ((0 : Int), (0 : Int), (0 : Int))).set 0 (x4, (0 : Int), (0 : Int))) (decide ((↑y1.length : Int) > (0 : Int))) (IntKind.i64.wrap (x4 + (1 : Int))))) else none) else (bif !decide ((↑y1.length : Int) > (0 : Int)) then (bif x3 then (if (0 : Int) ≤ IntKind.i64.wrap ((↑x2.length : Int) - (1 : Int)) ∧ IntKind.i64.wrap ((↑x2.length : Int) - (1 : Int)) < (↑x2.length : Int) then (rc x1 (x2.set (IntKind.i64.wrap ((↑x2.length : Int) - (1 : Int))).toNat ((x2.getD (IntKind.i64.wrap ((↑x2.length : Int) - (1 : Int))).toNat ((0 : Int), (0 : Int), (0 : Int))).1, x4, (x2.getD (IntKind.i64.wrap ((↑x2.length : Int) - (1 : Int))).toNat ((0 : Int), (0 : Int), (0 : Int))).2.2)) (decide ((↑y1.length : Int) > (0 : Int))) (IntKind.i64.wrap (x4 + (1 : Int)))) else none) else (rc x1 x2 (decide ((↑y1.length : Int) > (0 : Int))) (IntKind.i64.wrap (x4 + (1 : Int))))) else (rc x1 x2 (decide ((↑y1.length : Int) > (0 : Int))) (IntKind.i64.wrap (x4 + (1 : Int)))))) else (bif !decide ((↑y1.length : Int) > (0 : Int)) then (bif x3 then (if (0 : Int) ≤ IntKind.i64.wrap ((↑x2.length : Int) - (1 : Int)) ∧ IntKind.i64.wrap ((↑x2.length : Int) - (1 : Int)) < (↑x2.length : Int) then (rc x1 (x2.set (IntKind.i64.wrap ((↑x2.length : Int) - (1 : Int))).toNat ((x2.getD (IntKind.i64.wrap ((↑x2.length : Int) - (1 : Int))).toNat ((0 : Int), (0 : Int), (0 : Int))).1, x4, (x2.getD (IntKind.i64.wrap ((↑x2.length : Int) - (1 : Int))).toNat ((0 : Int), (0 : Int), (0 : Int))).2.2)) (decide ((↑y1.length : Int) > (0 : Int))) (IntKind.i64.wrap (x4 + (1 : Int)))) else none) else (rc x1 x2 (decide ((↑y1.length : Int) > (0 : Int))) (IntKind.i64.wrap (x4 + (1 : Int))))) else (rc x1 x2 (decide ((↑y1.length : Int) > (0 : Int))) (IntKind.i64.wrap (x4 + (1 : Int))))))) else some ((x2, x3, x4, ())))
noncomputable def impll51_0 (K : Nat) : Nat → (List (Int × (Int × Int))) → (List (Int × (Int × Int))) → Bool → Int → Option ((List (Int × (Int × Int))) × Bool × Int × Unit)
  | 0, _, _, _, _ => none
  | k + 1, x1, x2, x3, x4 => implb51_0 K (impll51_0 K k) x1 x2 x3 x4
noncomputable def n51_0 (K : Nat) : Lent := ⟨[0, 5, 6, 7], i51_0, [14, 15, 18, 19, 20, 21, 22, 8, 23, 24, 25, 26, 27, 28, 29, 30, 31, 32, 33, 34, 35, 36, 37, 38, 39, 40, 41, 42, 43, 44, 45, 16, 17], [0], false, res51, fun x => impll51_0 K K x.1 x.2.1 x.2.2.1 x.2.2.2.1, []⟩
theorem q51_0 (K : Nat) (rc : (List (Int × (Int × Int))) → (List (Int × (Int × Int))) → Bool → Int → Option ((List (Int × (Int × Int))) × Bool × Int × Unit)) (x1 : (List (Int × (Int × Int)))) (x2 : (List (Int × (Int × Int)))) (x3 : Bool) (x4 : Int) : evLoop (L51_0 K) 3 51 Try.f51.results.toList (loopOf 0 (codeOf Try.f51)) 0 [0, 5, 6, 7] [] i51_0 [0] false res51 (fun x => rc x.1 x.2.1 x.2.2.1 x.2.2.2.1) (x1, x2, x3, x4, ()) = implb51_0 K rc x1 x2 x3 x4 := by kernel_rfl
theorem lp51_0 : loopsIn (loopOf 0 (codeOf Try.f51)) 0 = [] := by kernel_rfl
theorem n51_0_ok (K : Nat) : LentOk Try.prog Try.f51 (loopOf 0 (codeOf Try.f51)) (n51_0 K) := lentOk_k (slots := [0, 5, 6, 7]) (ali := []) (ins := i51_0) (writes := [14, 15, 18, 19, 20, 21, 22, 8, 23, 24, 25, 26, 27, 28, 29, 30, 31, 32, 33, 34, 35, 36, 37, 38, 39, 40, 41, 42, 43, 44, 45, 16, 17]) (exits := [0]) (rets := false) (rs := res51) (lib51_0 K) lp51_0 trivial (by kernel_rfl) (by kernel_rfl) (by kernel_rfl) (by kernel_rfl) (by kernel_rfl) (fun k x => impll51_0 K k x.1 x.2.1 x.2.2.1 x.2.2.2.1) (fun _ => rfl) (fun k x => q51_0 K (impll51_0 K k) x.1 x.2.1 x.2.2.1 x.2.2.2.1) K
noncomputable def L51_1 (K : Nat) : Lib := mkLib ti [(25, [e25 K]), (80, [e80 K])] [] 51 [(0, [n51_0 K])]
theorem lib51_1 (K : Nat) : LibOk Try.prog (L51_1 K) := libOk_mk (ents := [(25, [e25 K]), (80, [e80 K])]) (bodies := []) (loops := [(0, [n51_0 K])]) order tiOk ⟨one_ent (e25_ok K), one_ent (e80_ok K), trivial⟩ trivial Try.func51 rfl lp51 ⟨one_lent (n51_0_ok K), trivial⟩
noncomputable def implf51 (K : Nat) (x1 : (List (Int × (Int × Int)))) : Option ((List (Int × (Int × Int))) × Int) :=
  (ob (implf25 K x1) fun y1 => (bif y1 != (0 : Int) then some (([], y1)) else (ob (impll51_0 K K x1 [] false ((0 : Int))) fun y2 => some ((y2.1, (0 : Int))))))
theorem q51 (K : Nat) (x1 : (List (Int × (Int × Int)))) : evFnK (α := (List (Int × (Int × Int))) × Int) (L51_1 K) 3 51 Try.f51.results.toList (codeOf Try.f51) ins51 res51 (fun p => (p.1.1, p.1.2.1)) (x1, ()) = implf51 K x1 := by kernel_rfl
noncomputable def e51 (K : Nat) : Ent := ⟨ins51, res51, (List (Int × (Int × Int))) × Int, fun x => implf51 K x.1, fun _ => (fun y => ((y.1, y.2, ()), (()))), false⟩
theorem e51_ok (K : Nat) : EntOk Try.prog 51 (e51 K) := entOk_k (ins := ins51) (rs := res51) (α := (List (Int × (Int × Int))) × Int) (lib51_1 K) (d := 3) Try.func51 rfl (by kernel_rfl) (by kernel_rfl) (by kernel_rfl) (fun x => implf51 K x.1) (fun p => (p.1.1, p.1.2.1)) (fun y => ((y.1, y.2, ()), (()))) (fun _ => rfl) (fun x => q51 K x.1)

/-! diaphone/diaphonelaw04.WatchSpells -/
abbrev ins16 : Fs := [(.dat (.sl (.pr (.int .i64) (.pr (.int .i64) (.int .i64)))), false)]
abbrev res16 : Sh := .dat (.bool)
theorem lp16 : loopsIn (codeOf Try.f16) 0 = [] := by kernel_rfl
noncomputable def L16_0 (K : Nat) : Lib := mkLib ti [(19, [e19 K]), (20, [e20 K]), (39, [e39 K]), (40, [e40 K]), (45, [e45 K]), (49, [e49 K]), (50, [e50 K]), (51, [e51 K])] [] 16 []
theorem lib16_0 (K : Nat) : LibOk Try.prog (L16_0 K) := libOk_mk (ents := [(19, [e19 K]), (20, [e20 K]), (39, [e39 K]), (40, [e40 K]), (45, [e45 K]), (49, [e49 K]), (50, [e50 K]), (51, [e51 K])]) (bodies := []) (loops := []) order tiOk ⟨one_ent (e19_ok K), one_ent (e20_ok K), one_ent (e39_ok K), one_ent (e40_ok K), one_ent (e45_ok K), one_ent (e49_ok K), one_ent (e50_ok K), one_ent (e51_ok K), trivial⟩ trivial Try.func16 rfl lp16 trivial
noncomputable def implf16 (K : Nat) (x1 : (List (Int × (Int × Int)))) : Option (Bool) :=
  (ob (implf19 K x1 []) fun y1 => (bif y1 then (ob (implf20 K) fun y2 => some (y2)) else (ob (implf39 K x1) fun y3 => (ob (implf50 K x1) fun y4 => (ob (implf45 K x1) fun y5 => (ob (implf51 K x1) fun y6 => (bif y3.1 != y4.1 then some (false) else (bif y3.2 != y4.2 then some (false) else (ob (implf49 K y5.1 y6.1) fun y7 => (bif !y7 then some (false) else (bif y5.2 != y6.2 then some (false) else (bif y3.2 != (0 : Int) then (ob (implf20 K) fun y8 => some (y8)) else (ob (implf39 K y5.1) fun y9 => (ob (implf40 K y5.1) fun y10 => (bif y9.2 == (0 : Int) then (bif y9.1 == y3.1 then (bif y10.2 == (0 : Int) then (bif (↑y10.1.length : Int) == (↑y5.1.length : Int) then (ob (implf20 K) fun y11 => some (y11)) else some (false)) else some (false)) else some (false)) else some (false))))))))))))))))
theorem q16 (K : Nat) (x1 : (List (Int × (Int × Int)))) : evFnK (α := Bool) (L16_0 K) 3 16 Try.f16.results.toList (codeOf Try.f16) ins16 res16 (fun p => p.1) (x1, ()) = implf16 K x1 := by kernel_rfl
noncomputable def e16 (K : Nat) : Ent := ⟨ins16, res16, Bool, fun x => implf16 K x.1, fun _ => (fun y => (y, (()))), false⟩
theorem e16_ok (K : Nat) : EntOk Try.prog 16 (e16 K) := entOk_k (ins := ins16) (rs := res16) (α := Bool) (lib16_0 K) (d := 3) Try.func16 rfl (by kernel_rfl) (by kernel_rfl) (by kernel_rfl) (fun x => implf16 K x.1) (fun p => p.1) (fun y => (y, (()))) (fun _ => rfl) (fun x => q16 K x.1)

/-! diaphone/watch.Mirror -/
abbrev ins52 : Fs := [(.dat (.sl (.pr (.int .i64) (.pr (.int .i64) (.int .i64)))), false)]
abbrev res52 : Sh := .cons (.own (.pr (.int .i64) (.pr (.int .i64) (.int .i64)))) (.cons (.dat (.int .i64)) (.un))
theorem lp52 : loopsIn (codeOf Try.f52) 0 = [(0, loopOf 0 (codeOf Try.f52))] := by kernel_rfl
noncomputable def L52_0 (K : Nat) : Lib := mkLib ti [(31, [e31 K])] [] 52 []
theorem lib52_0 (K : Nat) : LibOk Try.prog (L52_0 K) := libOk_mk (ents := [(31, [e31 K])]) (bodies := []) (loops := []) order tiOk ⟨one_ent (e31_ok K), trivial⟩ trivial Try.func52 rfl lp52 ⟨no_lent, trivial⟩
abbrev i52_0 : Fs := [(.own (.pr (.int .i64) (.pr (.int .i64) (.int .i64))), true), (.dat (.sl (.pr (.int Go.IntKind.i64) (.pr (.int Go.IntKind.i64) (.int Go.IntKind.i64)))), false), (.dat (.int Go.IntKind.i64), false), (.dat (.int Go.IntKind.i64), true)]
noncomputable def implb52_0 (K : Nat) (rc : (List (Int × (Int × Int))) → (List (Int × (Int × Int))) → Int → Int → Option ((List (Int × (Int × Int))) × Int × Unit)) (x1 : (List (Int × (Int × Int)))) (x2 : (List (Int × (Int × Int)))) (x3 : Int) (x4 : Int) : Option ((List (Int × (Int × Int))) × Int × Unit) :=
  (bif decide (x4 < x3) then (if (0 : Int) ≤ x4 ∧ x4 < (↑x2.length : Int) then (if (x1.length + ((List.replicate 1 ((0 : Int), (0 : Int), (0 : Int))).set 0 (IntKind.i64.wrap ((1000 : Int) - (x2.getD x4.toNat ((0 : Int), (0 : Int), (0 : Int))).2.1), IntKind.i64.wrap ((1000 : Int) - (x2.getD x4.toNat ((0 : Int), (0 : Int), (0 : Int))).1), (x2.getD x4.toNat ((0 : Int), (0 : Int), (0 : Int))).2.2)).length) * 24 ≤ 140737488355328 then (rc (x1 ++ (List.replicate 1 ((0 : Int), (0 : Int), (0 : Int))).set 0 (IntKind.i64.wrap ((1000 : Int) - (x2.getD x4.toNat ((0 : Int), (0 : Int), (0 : Int))).2.1), IntKind.i64.wrap ((1000 : Int) - (x2.getD x4.toNat ((0 : Int), (0 : Int), (0 : Int))).1), (x2.getD x4.toNat ((0 : Int), (0 : Int), (0 : Int))).2.2)) x2 x3 (IntKind.i64.wrap (x4 + (1 : Int)))) else none) else none) else some ((x1, x4, ())))
noncomputable def impll52_0 (K : Nat) : Nat → (List (Int × (Int × Int))) → (List (Int × (Int × Int))) → Int → Int → Option ((List (Int × (Int × Int))) × Int × Unit)
  | 0, _, _, _, _ => none
  | k + 1, x1, x2, x3, x4 => implb52_0 K (impll52_0 K k) x1 x2 x3 x4
noncomputable def n52_0 (K : Nat) : Lent := ⟨[5, 13, 14, 15], i52_0, [16, 17, 18, 7, 19, 20, 21, 22, 23, 24, 25, 26, 27, 28, 29, 30, 31], [0], false, res52, fun x => impll52_0 K K x.1 x.2.1 x.2.2.1 x.2.2.2.1, []⟩
theorem q52_0 (K : Nat) (rc : (List (Int × (Int × Int))) → (List (Int × (Int × Int))) → Int → Int → Option ((List (Int × (Int × Int))) × Int × Unit)) (x1 : (List (Int × (Int × Int)))) (x2 : (List (Int × (Int × Int)))) (x3 : Int) (x4 : Int) : evLoop (L52_0 K) 3 52 Try.f52.results.toList (loopOf 0 (codeOf Try.f52)) 0 [5, 13, 14, 15] [] i52_0 [0] false res52 (fun x => rc x.1 x.2.1 x.2.2.1 x.2.2.2.1) (x1, x2, x3, x4, ()) = implb52_0 K rc x1 x2 x3 x4 := by kernel_rfl
theorem lp52_0 : loopsIn (loopOf 0 (codeOf Try.f52)) 0 = [] := by kernel_rfl
theorem n52_0_ok (K : Nat) : LentOk Try.prog Try.f52 (loopOf 0 (codeOf Try.f52)) (n52_0 K) := lentOk_k (slots := [5, 13, 14, 15]) (ali := []) (ins := i52_0) (writes := [16, 17, 18, 7, 19, 20, 21, 22, 23, 24, 25, 26, 27, 28, 29, 30, 31]) (exits := [0]) (rets := false) (rs := res52) (lib52_0 K) lp52_0 trivial (by kernel_rfl) (by kernel_rfl) (by kernel_rfl) (by kernel_rfl) (by kernel_rfl) (fun k x => impll52_0 K k x.1 x.2.1 x.2.2.1 x.2.2.2.1) (fun _ => rfl) (fun k x => q52_0 K (impll52_0 K k) x.1 x.2.1 x.2.2.1 x.2.2.2.1) K
noncomputable def L52_1 (K : Nat) : Lib := mkLib ti [(31, [e31 K])] [] 52 [(0, [n52_0 K])]
theorem lib52_1 (K : Nat) : LibOk Try.prog (L52_1 K) := libOk_mk (ents := [(31, [e31 K])]) (bodies := []) (loops := [(0, [n52_0 K])]) order tiOk ⟨one_ent (e31_ok K), trivial⟩ trivial Try.func52 rfl lp52 ⟨one_lent (n52_0_ok K), trivial⟩
noncomputable def implf52 (K : Nat) (x1 : (List (Int × (Int × Int)))) : Option ((List (Int × (Int × Int))) × Int) :=
  (ob (implf31 K x1) fun y1 => (bif y1 != (0 : Int) then some (([], y1)) else (ob (impll52_0 K K [] x1 ((↑x1.length : Int)) ((0 : Int))) fun y2 => some ((y2.1, (0 : Int))))))
theorem q52 (K : Nat) (x1 : (List (Int × (Int × Int)))) : evFnK (α := (List (Int × (Int × Int))) × Int) (L52_1 K) 3 52 Try.f52.results.toList (codeOf Try.f52) ins52 res52 (fun p => (p.1.1, p.1.2.1)) (x1, ()) = implf52 K x1 := by kernel_rfl
noncomputable def e52 (K : Nat) : Ent := ⟨ins52, res52, (List (Int × (Int × Int))) × Int, fun x => implf52 K x.1, fun _ => (fun y => ((y.1, y.2, ()), (()))), false⟩
theorem e52_ok (K : Nat) : EntOk Try.prog 52 (e52 K) := entOk_k (ins := ins52) (rs := res52) (α := (List (Int × (Int × Int))) × Int) (lib52_1 K) (d := 3) Try.func52 rfl (by kernel_rfl) (by kernel_rfl) (by kernel_rfl) (fun x => implf52 K x.1) (fun p => (p.1.1, p.1.2.1)) (fun y => ((y.1, y.2, ()), (()))) (fun _ => rfl) (fun x => q52 K x.1)

end Go.Proofs.Ytbojnkcolamneaa
