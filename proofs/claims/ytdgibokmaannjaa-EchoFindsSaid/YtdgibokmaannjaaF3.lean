/- What the functions compute: printed by a program of this claim's author. -/
import Derived.Test.YtdgibokmaannjaaF2
set_option maxRecDepth 100000
set_option linter.unusedVariables false
set_option linter.unusedSimpArgs false
namespace Go.Proofs.Ytdgibokmaannjaa
open Go Go.Pv

/-! diaphone/diaphoneref05.SameRows -/
abbrev ins57 : Fs := [(.dat (.sl (.sl (.int .i64))), false), (.dat (.sl (.sl (.int .i64))), false)]
abbrev res57 : Sh := .dat (.bool)
theorem lp57 : loopsIn (codeOf Try.f57) 0 = [(0, loopOf 0 (codeOf Try.f57))] := by kernel_rfl
noncomputable def L57_0 (K : Nat) : Lib := mkLib ti [(24, [e24 K])] [] 57 []
theorem lib57_0 (K : Nat) : LibOk Try.prog (L57_0 K) := libOk_mk (ents := [(24, [e24 K])]) (bodies := []) (loops := []) order tiOk ⟨one_ent (e24_ok K), trivial⟩ trivial Try.func57 rfl lp57 ⟨no_lent, trivial⟩
abbrev i57_0 : Fs := [(.dat (.sl (.sl (.int Go.IntKind.i64))), false), (.dat (.sl (.sl (.int Go.IntKind.i64))), false), (.dat (.int Go.IntKind.i64), true)]
noncomputable def implb57_0 (K : Nat) (rc : (List (List Int)) → (List (List Int)) → Int → Option (Sum (Int × Unit) Bool)) (x1 : (List (List Int))) (x2 : (List (List Int))) (x3 : Int) : Option (Sum (Int × Unit) Bool) :=
  (bif decide (x3 < (↑x1.length : Int)) then (if (0 : Int) ≤ x3 ∧ x3 < (↑x1.length : Int) then (if (0 : Int) ≤ x3 ∧ x3 < (↑x2.length : Int) then (ob (implf24 K (x1.getD x3.toNat []) (x2.getD x3.toNat [])) fun y1 => (bif !y1 then some (Sum.inr false) else (rc x1 x2 (IntKind.i64.wrap (x3 + (1 : Int)))))) else none) else none) else some (Sum.inl (x3, ())))
noncomputable def impll57_0 (K : Nat) : Nat → (List (List Int)) → (List (List Int)) → Int → Option (Sum (Int × Unit) Bool)
  | 0, _, _, _ => none
  | k + 1, x1, x2, x3 => implb57_0 K (impll57_0 K k) x1 x2 x3
noncomputable def n57_0 (K : Nat) : Lent := ⟨[0, 1, 5], i57_0, [11, 12, 13, 14, 17, 18, 19, 20, 21, 22, 23, 24, 25, 26, 4, 15, 16], [0], true, res57, fun x => impll57_0 K K x.1 x.2.1 x.2.2.1, [], none⟩
theorem q57_0 (K : Nat) (rc : (List (List Int)) → (List (List Int)) → Int → Option (Sum (Int × Unit) Bool)) (x1 : (List (List Int))) (x2 : (List (List Int))) (x3 : Int) : evLoop (L57_0 K) 3 57 Try.f57.results.toList (loopOf 0 (codeOf Try.f57)) 0 [0, 1, 5] [] i57_0 [0] true res57 (fun x => rc x.1 x.2.1 x.2.2.1) (x1, x2, x3, ()) = implb57_0 K rc x1 x2 x3 := by kernel_rfl
theorem lp57_0 : loopsIn (loopOf 0 (codeOf Try.f57)) 0 = [] := by kernel_rfl
theorem n57_0_ok (K : Nat) : LentOk Try.prog Try.f57 (loopOf 0 (codeOf Try.f57)) (n57_0 K) := lentOk_k (slots := [0, 1, 5]) (ali := []) (ins := i57_0) (writes := [11, 12, 13, 14, 17, 18, 19, 20, 21, 22, 23, 24, 25, 26, 4, 15, 16]) (exits := [0]) (rets := true) (rs := res57) (d := 3) (lib57_0 K) lp57_0 trivial (by kernel_rfl) (by kernel_rfl) (by kernel_rfl) (by kernel_rfl) (by kernel_rfl) (fun k x => impll57_0 K k x.1 x.2.1 x.2.2.1) (fun _ => rfl) (fun k x => q57_0 K (impll57_0 K k) x.1 x.2.1 x.2.2.1) K
noncomputable def L57_1 (K : Nat) : Lib := mkLib ti [(24, [e24 K])] [] 57 [(0, [n57_0 K])]
theorem lib57_1 (K : Nat) : LibOk Try.prog (L57_1 K) := libOk_mk (ents := [(24, [e24 K])]) (bodies := []) (loops := [(0, [n57_0 K])]) order tiOk ⟨one_ent (e24_ok K), trivial⟩ trivial Try.func57 rfl lp57 ⟨one_lent (n57_0_ok K), trivial⟩
noncomputable def implf57 (K : Nat) (x1 : (List (List Int))) (x2 : (List (List Int))) : Option (Bool) :=
  (bif (↑x1.length : Int) != (↑x2.length : Int) then some (false) else (ob (impll57_0 K K x1 x2 ((0 : Int))) fun y1 => (match y1 with | .inl y2 => some (true) | .inr y2 => some (y2))))
theorem q57 (K : Nat) (x1 : (List (List Int))) (x2 : (List (List Int))) : evFnK (α := Bool) (L57_1 K) 3 57 Try.f57.results.toList (codeOf Try.f57) ins57 res57 (fun p => p.1) (x1, x2, ()) = implf57 K x1 x2 := by kernel_rfl
noncomputable def e57 (K : Nat) : Ent := ⟨ins57, res57, Bool, fun x => implf57 K x.1 x.2.1, fun _ => (fun y => (y, (()))), false⟩
theorem e57_ok (K : Nat) : EntOk Try.prog 57 (e57 K) := entOk_k (ins := ins57) (rs := res57) (α := Bool) (lib57_1 K) (d := 3) Try.func57 rfl (by kernel_rfl) (by kernel_rfl) (by kernel_rfl) (fun x => implf57 K x.1 x.2.1) (fun p => p.1) (fun y => (y, (()))) (fun _ => rfl) (fun x => q57 K x.1 x.2.1)

/-! diaphone/diaphonelaw05.sane -/
abbrev ins19 : Fs := []
abbrev res19 : Sh := .dat (.bool)
theorem lp19 : loopsIn (codeOf Try.f19) 0 = [] := by kernel_rfl
noncomputable def L19_0 (K : Nat) : Lib := mkLibR ti [(58, [e58 K]), (24, [e24 K]), (25, [e25 K]), (37, [e37 K]), (57, [e57 K])] [(22, Try.f22)] 19 [] [] [37] [] []
theorem lib19_0 (K : Nat) : LibOk Try.prog (L19_0 K) := libOk_mkR (ents := [(58, [e58 K]), (24, [e24 K]), (25, [e25 K]), (37, [e37 K]), (57, [e57 K])]) (bodies := [(22, Try.f22)]) (loops := []) order tiOk ⟨one_ent (e58_ok K), one_ent (e24_ok K), one_ent (e25_ok K), one_ent (e37_ok K), one_ent (e57_ok K), trivial⟩ ⟨bod22, trivial⟩ Try.func19 rfl lp19 trivial (rngs := []) trivial (frz := [37]) (opts := []) trivial
noncomputable def implf19 (K : Nat)  : Option (Bool) :=
  (ob (implf37 K ((((List.replicate 3 ((0 : Int))).set 0 ((1 : Int))).set 1 ((3 : Int))).set 2 ((4 : Int)))) fun y1 => (ob (implf58 K (((List.replicate 2 ((0 : Int))).set 0 ((0 : Int))).set 1 ((1 : Int))) (((List.replicate 2 ((0 : Int))).set 0 ((0 : Int))).set 1 ((3 : Int))) (-1 : Int)) fun y2 => (ob (implf25 K ((4 : Int))) fun y3 => (bif y1.2 == (0 : Int) then (ob (implf57 K y1.1 ((List.replicate 1 []).set 0 ((((List.replicate 3 ((0 : Int))).set 0 ((0 : Int))).set 1 ((1 : Int))).set 2 ((4 : Int))))) fun y4 => (bif y4 then (bif y2.2 == (0 : Int) then (ob (implf24 K y2.1 (((((List.replicate 4 ((0 : Int))).set 0 (-3 : Int)).set 1 (-2 : Int)).set 2 ((0 : Int))).set 3 ((1 : Int)))) fun y5 => (bif y5 then (bif y3.2 == (0 : Int) then (ob (implf24 K y3.1 (((((List.replicate 4 ((0 : Int))).set 0 ((0 : Int))).set 1 ((1 : Int))).set 2 ((4 : Int))).set 3 ((6 : Int)))) fun y6 => some (y6)) else some (false)) else some (false))) else some (false)) else some (false))) else some (false)))))
theorem q19 (K : Nat)  : evFnK (α := Bool) (L19_0 K) 3 19 Try.f19.results.toList (codeOf Try.f19) ins19 res19 (fun p => p.1) (()) = implf19 K  := by kernel_rfl
noncomputable def e19 (K : Nat) : Ent := ⟨ins19, res19, Bool, fun x => implf19 K , fun _ => (fun y => (y, (()))), false⟩
theorem e19_ok (K : Nat) : EntOk Try.prog 19 (e19 K) := entOk_k (ins := ins19) (rs := res19) (α := Bool) (lib19_0 K) (d := 3) Try.func19 rfl (by kernel_rfl) (by kernel_rfl) (by kernel_rfl) (fun x => implf19 K ) (fun p => p.1) (fun y => (y, (()))) (fun _ => rfl) (fun x => q19 K )

/-! diaphone/echo.CheckCliffs -/
abbrev ins34 : Fs := [(.dat (.sl (.int .i64)), false), (.dat (.sl (.int .i64)), false)]
abbrev res34 : Sh := .dat (.int .i64)
theorem lp34 : loopsIn (codeOf Try.f34) 0 = [] := by kernel_rfl
noncomputable def L34_0 (K : Nat) : Lib := mkLib ti [(32, [e32 K]), (69, [e69 K]), (70, [e70 K]), (72, [e72 K])] [] 34 []
theorem lib34_0 (K : Nat) : LibOk Try.prog (L34_0 K) := libOk_mk (ents := [(32, [e32 K]), (69, [e69 K]), (70, [e70 K]), (72, [e72 K])]) (bodies := []) (loops := []) order tiOk ⟨one_ent (e32_ok K), one_ent (e69_ok K), one_ent (e70_ok K), one_ent (e72_ok K), trivial⟩ trivial Try.func34 rfl lp34 trivial
noncomputable def implf34 (K : Nat) (x1 : (List Int)) (x2 : (List Int)) : Option (Int) :=
  (ob (implf72 K x1) fun y1 => (bif y1 != (0 : Int) then some (y1) else (ob (implf32 K x2) fun y2 => (bif y2 != (0 : Int) then some (y2) else (ob (implf70 K x2) fun y3 => (ob (implf69 K y3 x1) fun y4 => (bif !y4 then some ((7 : Int)) else some ((0 : Int)))))))))
theorem q34 (K : Nat) (x1 : (List Int)) (x2 : (List Int)) : evFnK (α := Int) (L34_0 K) 3 34 Try.f34.results.toList (codeOf Try.f34) ins34 res34 (fun p => p.1) (x1, x2, ()) = implf34 K x1 x2 := by kernel_rfl
noncomputable def e34 (K : Nat) : Ent := ⟨ins34, res34, Int, fun x => implf34 K x.1 x.2.1, fun _ => (fun y => (y, (()))), false⟩
theorem e34_ok (K : Nat) : EntOk Try.prog 34 (e34 K) := entOk_k (ins := ins34) (rs := res34) (α := Int) (lib34_0 K) (d := 3) Try.func34 rfl (by kernel_rfl) (by kernel_rfl) (by kernel_rfl) (fun x => implf34 K x.1 x.2.1) (fun p => p.1) (fun y => (y, (()))) (fun _ => rfl) (fun x => q34 K x.1 x.2.1)

/-! diaphone/diaphoneref05.rows -/
abbrev ins64a : Fs := [(.dat (.sl (.int .i64)), false), (.dat (.int .i64), false), (.dat (.int .i64), false)]
abbrev res64a : Sh := .own (.sl (.int .i64))
noncomputable def implf64a (K : Nat) (x1 : List Int) (x2 : Int) (x3 : Int) : Option (List (List Int)) := rowsF x1 x2 x3
noncomputable def e64a (K : Nat) : Ent := ⟨ins64a, res64a, List (List Int), fun x => implf64a K x.1 x.2.1 x.2.2.1, fun _ => (fun y => (y, ())), false⟩
theorem e64a_ok (K : Nat) : EntOk Try.prog 64 (e64a K) := rows_ent64

abbrev ins64b : Fs := [(.own (.int .i64), false), (.dat (.int .i64), false), (.dat (.int .i64), false)]
abbrev res64b : Sh := .own (.sl (.int .i64))
noncomputable def e64b (K : Nat) : Ent := ⟨ins64b, res64b, List (List Int), fun x => implf64a K x.1 x.2.1 x.2.2.1, fun _ => (fun y => (y, ())), false⟩
theorem e64b_ok (K : Nat) : EntOk Try.prog 64 (e64b K) := rows_ent64o

/-! diaphone/diaphoneref05.mirror -/
abbrev ins78 : Fs := [(.dat (.sl (.int .i64)), false)]
abbrev res78 : Sh := .own (.int .i64)
theorem lp78 : loopsIn (codeOf Try.f78) 0 = [(0, loopOf 0 (codeOf Try.f78))] := by kernel_rfl
noncomputable def L78_0 (K : Nat) : Lib := mkLib ti [] [] 78 []
theorem lib78_0 (K : Nat) : LibOk Try.prog (L78_0 K) := libOk_mk (ents := []) (bodies := []) (loops := []) order tiOk trivial trivial Try.func78 rfl lp78 ⟨no_lent, trivial⟩
abbrev i78_0 : Fs := [(.dat (.sl (.int Go.IntKind.i64)), false), (.own (.int .i64), true), (.dat (.int Go.IntKind.i64), true)]
noncomputable def implb78_0 (K : Nat) (rc : (List Int) → (List Int) → Int → Option ((List Int) × Int × Unit)) (x1 : (List Int)) (x2 : (List Int)) (x3 : Int) : Option ((List Int) × Int × Unit) :=
  (bif decide (x3 ≥ (0 : Int)) then (if (0 : Int) ≤ (0 : Int) ∧ (0 : Int) < (↑x1.length : Int) then (if (0 : Int) ≤ IntKind.i64.wrap ((↑x1.length : Int) - (1 : Int)) ∧ IntKind.i64.wrap ((↑x1.length : Int) - (1 : Int)) < (↑x1.length : Int) then (if (0 : Int) ≤ x3 ∧ x3 < (↑x1.length : Int) then (if (x2.length + ((List.replicate 1 ((0 : Int))).set 0 (IntKind.i64.wrap (IntKind.i64.wrap (x1.getD (0) ((0 : Int)) + x1.getD (IntKind.i64.wrap ((↑x1.length : Int) - (1 : Int))).toNat ((0 : Int))) - x1.getD x3.toNat ((0 : Int))))).length) * 8 ≤ 140737488355328 then (rc x1 (x2 ++ (List.replicate 1 ((0 : Int))).set 0 (IntKind.i64.wrap (IntKind.i64.wrap (x1.getD (0) ((0 : Int)) + x1.getD (IntKind.i64.wrap ((↑x1.length : Int) - (1 : Int))).toNat ((0 : Int))) - x1.getD x3.toNat ((0 : Int))))) (IntKind.i64.wrap (x3 - (1 : Int)))) else none) else none) else none) else none) else some ((x2, x3, ())))
noncomputable def impll78_0 (K : Nat) : Nat → (List Int) → (List Int) → Int → Option ((List Int) × Int × Unit)
  | 0, _, _, _ => none
  | k + 1, x1, x2, x3 => implb78_0 K (impll78_0 K k) x1 x2 x3
noncomputable def n78_0 (K : Nat) : Lent := ⟨[0, 3, 4], i78_0, [8, 9, 12, 13, 14, 15, 16, 17, 18, 19, 20, 21, 22, 23, 24, 25, 26, 27, 28, 29, 10, 11], [0], false, res78, fun x => impll78_0 K K x.1 x.2.1 x.2.2.1, [], none⟩
theorem q78_0 (K : Nat) (rc : (List Int) → (List Int) → Int → Option ((List Int) × Int × Unit)) (x1 : (List Int)) (x2 : (List Int)) (x3 : Int) : evLoop (L78_0 K) 3 78 Try.f78.results.toList (loopOf 0 (codeOf Try.f78)) 0 [0, 3, 4] [] i78_0 [0] false res78 (fun x => rc x.1 x.2.1 x.2.2.1) (x1, x2, x3, ()) = implb78_0 K rc x1 x2 x3 := by kernel_rfl
theorem lp78_0 : loopsIn (loopOf 0 (codeOf Try.f78)) 0 = [] := by kernel_rfl
theorem n78_0_ok (K : Nat) : LentOk Try.prog Try.f78 (loopOf 0 (codeOf Try.f78)) (n78_0 K) := lentOk_k (slots := [0, 3, 4]) (ali := []) (ins := i78_0) (writes := [8, 9, 12, 13, 14, 15, 16, 17, 18, 19, 20, 21, 22, 23, 24, 25, 26, 27, 28, 29, 10, 11]) (exits := [0]) (rets := false) (rs := res78) (d := 3) (lib78_0 K) lp78_0 trivial (by kernel_rfl) (by kernel_rfl) (by kernel_rfl) (by kernel_rfl) (by kernel_rfl) (fun k x => impll78_0 K k x.1 x.2.1 x.2.2.1) (fun _ => rfl) (fun k x => q78_0 K (impll78_0 K k) x.1 x.2.1 x.2.2.1) K
noncomputable def L78_1 (K : Nat) : Lib := mkLib ti [] [] 78 [(0, [n78_0 K])]
theorem lib78_1 (K : Nat) : LibOk Try.prog (L78_1 K) := libOk_mk (ents := []) (bodies := []) (loops := [(0, [n78_0 K])]) order tiOk trivial trivial Try.func78 rfl lp78 ⟨one_lent (n78_0_ok K), trivial⟩
noncomputable def implf78 (K : Nat) (x1 : (List Int)) : Option ((List Int)) :=
  (ob (impll78_0 K K x1 [] (IntKind.i64.wrap ((↑x1.length : Int) - (1 : Int)))) fun y1 => some (y1.1))
theorem q78 (K : Nat) (x1 : (List Int)) : evFnK (α := (List Int)) (L78_1 K) 3 78 Try.f78.results.toList (codeOf Try.f78) ins78 res78 (fun p => p.1) (x1, ()) = implf78 K x1 := by kernel_rfl
noncomputable def e78 (K : Nat) : Ent := ⟨ins78, res78, (List Int), fun x => implf78 K x.1, fun _ => (fun y => (y, (()))), false⟩
theorem e78_ok (K : Nat) : EntOk Try.prog 78 (e78 K) := entOk_k (ins := ins78) (rs := res78) (α := (List Int)) (lib78_1 K) (d := 3) Try.func78 rfl (by kernel_rfl) (by kernel_rfl) (by kernel_rfl) (fun x => implf78 K x.1) (fun p => p.1) (fun y => (y, (()))) (fun _ => rfl) (fun x => q78 K x.1)

/-! diaphone/diaphoneref05.before -/
abbrev ins90 : Fs := [(.dat (.sl (.int .i64)), false), (.dat (.sl (.int .i64)), false)]
abbrev res90 : Sh := .dat (.bool)
theorem lp90 : loopsIn (codeOf Try.f90) 0 = [(0, loopOf 0 (codeOf Try.f90))] := by kernel_rfl
noncomputable def L90_0 (K : Nat) : Lib := mkLib ti [] [] 90 []
theorem lib90_0 (K : Nat) : LibOk Try.prog (L90_0 K) := libOk_mk (ents := []) (bodies := []) (loops := []) order tiOk trivial trivial Try.func90 rfl lp90 ⟨no_lent, trivial⟩
abbrev i90_0 : Fs := [(.dat (.sl (.int Go.IntKind.i64)), false), (.dat (.sl (.int Go.IntKind.i64)), false), (.dat (.int Go.IntKind.i64), true)]
noncomputable def implb90_0 (K : Nat) (rc : (List Int) → (List Int) → Int → Option (Sum (Int × Unit) Bool)) (x1 : (List Int)) (x2 : (List Int)) (x3 : Int) : Option (Sum (Int × Unit) Bool) :=
  (bif decide (x3 < (↑x1.length : Int)) then (if (0 : Int) ≤ x3 ∧ x3 < (↑x1.length : Int) then (if (0 : Int) ≤ x3 ∧ x3 < (↑x2.length : Int) then (bif x1.getD x3.toNat ((0 : Int)) != x2.getD x3.toNat ((0 : Int)) then (if (0 : Int) ≤ x3 ∧ x3 < (↑x1.length : Int) then (if (0 : Int) ≤ x3 ∧ x3 < (↑x2.length : Int) then some (Sum.inr (decide (x1.getD x3.toNat ((0 : Int)) < x2.getD x3.toNat ((0 : Int))))) else none) else none) else (rc x1 x2 (IntKind.i64.wrap (x3 + (1 : Int))))) else none) else none) else some (Sum.inl (x3, ())))
noncomputable def impll90_0 (K : Nat) : Nat → (List Int) → (List Int) → Int → Option (Sum (Int × Unit) Bool)
  | 0, _, _, _ => none
  | k + 1, x1, x2, x3 => implb90_0 K (impll90_0 K k) x1 x2 x3
noncomputable def n90_0 (K : Nat) : Lent := ⟨[0, 1, 5], i90_0, [6, 7, 8, 9, 12, 13, 14, 15, 16, 17, 18, 19, 20, 21, 22, 23, 24, 25, 26, 27, 28, 29, 4, 10, 11], [0], true, res90, fun x => impll90_0 K K x.1 x.2.1 x.2.2.1, [], none⟩
theorem q90_0 (K : Nat) (rc : (List Int) → (List Int) → Int → Option (Sum (Int × Unit) Bool)) (x1 : (List Int)) (x2 : (List Int)) (x3 : Int) : evLoop (L90_0 K) 3 90 Try.f90.results.toList (loopOf 0 (codeOf Try.f90)) 0 [0, 1, 5] [] i90_0 [0] true res90 (fun x => rc x.1 x.2.1 x.2.2.1) (x1, x2, x3, ()) = implb90_0 K rc x1 x2 x3 := by kernel_rfl
theorem lp90_0 : loopsIn (loopOf 0 (codeOf Try.f90)) 0 = [] := by kernel_rfl
theorem n90_0_ok (K : Nat) : LentOk Try.prog Try.f90 (loopOf 0 (codeOf Try.f90)) (n90_0 K) := lentOk_k (slots := [0, 1, 5]) (ali := []) (ins := i90_0) (writes := [6, 7, 8, 9, 12, 13, 14, 15, 16, 17, 18, 19, 20, 21, 22, 23, 24, 25, 26, 27, 28, 29, 4, 10, 11]) (exits := [0]) (rets := true) (rs := res90) (d := 3) (lib90_0 K) lp90_0 trivial (by kernel_rfl) (by kernel_rfl) (by kernel_rfl) (by kernel_rfl) (by kernel_rfl) (fun k x => impll90_0 K k x.1 x.2.1 x.2.2.1) (fun _ => rfl) (fun k x => q90_0 K (impll90_0 K k) x.1 x.2.1 x.2.2.1) K
noncomputable def L90_1 (K : Nat) : Lib := mkLib ti [] [] 90 [(0, [n90_0 K])]
theorem lib90_1 (K : Nat) : LibOk Try.prog (L90_1 K) := libOk_mk (ents := []) (bodies := []) (loops := [(0, [n90_0 K])]) order tiOk trivial trivial Try.func90 rfl lp90 ⟨one_lent (n90_0_ok K), trivial⟩
noncomputable def implf90 (K : Nat) (x1 : (List Int)) (x2 : (List Int)) : Option (Bool) :=
  (ob (impll90_0 K K x1 x2 ((0 : Int))) fun y1 => (match y1 with | .inl y2 => some (true) | .inr y2 => some (y2)))
theorem q90 (K : Nat) (x1 : (List Int)) (x2 : (List Int)) : evFnK (α := Bool) (L90_1 K) 3 90 Try.f90.results.toList (codeOf Try.f90) ins90 res90 (fun p => p.1) (x1, x2, ()) = implf90 K x1 x2 := by kernel_rfl
noncomputable def e90 (K : Nat) : Ent := ⟨ins90, res90, Bool, fun x => implf90 K x.1 x.2.1, fun _ => (fun y => (y, (()))), false⟩
theorem e90_ok (K : Nat) : EntOk Try.prog 90 (e90 K) := entOk_k (ins := ins90) (rs := res90) (α := Bool) (lib90_1 K) (d := 3) Try.func90 rfl (by kernel_rfl) (by kernel_rfl) (by kernel_rfl) (fun x => implf90 K x.1 x.2.1) (fun p => p.1) (fun y => (y, (()))) (fun _ => rfl) (fun x => q90 K x.1 x.2.1)

/-! diaphone/diaphoneref05.normal -/
abbrev ins66 : Fs := [(.dat (.sl (.int .i64)), false)]
abbrev res66 : Sh := .own (.int .i64)
theorem lp66 : loopsIn (codeOf Try.f66) 0 = [(0, loopOf 0 (codeOf Try.f66))] := by kernel_rfl
noncomputable def L66_0 (K : Nat) : Lib := mkLib ti [(78, [e78 K]), (90, [e90 K])] [] 66 []
theorem lib66_0 (K : Nat) : LibOk Try.prog (L66_0 K) := libOk_mk (ents := [(78, [e78 K]), (90, [e90 K])]) (bodies := []) (loops := []) order tiOk ⟨one_ent (e78_ok K), one_ent (e90_ok K), trivial⟩ trivial Try.func66 rfl lp66 ⟨no_lent, trivial⟩
abbrev i66_0 : Fs := [(.dat (.sl (.int Go.IntKind.i64)), false), (.own (.int .i64), true), (.dat (.int Go.IntKind.i64), true)]
noncomputable def implb66_0 (K : Nat) (rc : (List Int) → (List Int) → Int → Option ((List Int) × Int × Unit)) (x1 : (List Int)) (x2 : (List Int)) (x3 : Int) : Option ((List Int) × Int × Unit) :=
  (bif decide (x3 < (↑x1.length : Int)) then (if (0 : Int) ≤ x3 ∧ x3 < (↑x1.length : Int) then (if (0 : Int) ≤ (0 : Int) ∧ (0 : Int) < (↑x1.length : Int) then (if (x2.length + ((List.replicate 1 ((0 : Int))).set 0 (IntKind.i64.wrap (x1.getD x3.toNat ((0 : Int)) - x1.getD (0) ((0 : Int))))).length) * 8 ≤ 140737488355328 then (rc x1 (x2 ++ (List.replicate 1 ((0 : Int))).set 0 (IntKind.i64.wrap (x1.getD x3.toNat ((0 : Int)) - x1.getD (0) ((0 : Int))))) (IntKind.i64.wrap (x3 + (1 : Int)))) else none) else none) else none) else some ((x2, x3, ())))
noncomputable def impll66_0 (K : Nat) : Nat → (List Int) → (List Int) → Int → Option ((List Int) × Int × Unit)
  | 0, _, _, _ => none
  | k + 1, x1, x2, x3 => implb66_0 K (impll66_0 K k) x1 x2 x3
noncomputable def n66_0 (K : Nat) : Lent := ⟨[0, 3, 4], i66_0, [5, 6, 7, 8, 11, 12, 13, 14, 15, 16, 17, 18, 19, 20, 21, 9, 10], [0], false, res66, fun x => impll66_0 K K x.1 x.2.1 x.2.2.1, [], none⟩
theorem q66_0 (K : Nat) (rc : (List Int) → (List Int) → Int → Option ((List Int) × Int × Unit)) (x1 : (List Int)) (x2 : (List Int)) (x3 : Int) : evLoop (L66_0 K) 3 66 Try.f66.results.toList (loopOf 0 (codeOf Try.f66)) 0 [0, 3, 4] [] i66_0 [0] false res66 (fun x => rc x.1 x.2.1 x.2.2.1) (x1, x2, x3, ()) = implb66_0 K rc x1 x2 x3 := by kernel_rfl
theorem lp66_0 : loopsIn (loopOf 0 (codeOf Try.f66)) 0 = [] := by kernel_rfl
theorem n66_0_ok (K : Nat) : LentOk Try.prog Try.f66 (loopOf 0 (codeOf Try.f66)) (n66_0 K) := lentOk_k (slots := [0, 3, 4]) (ali := []) (ins := i66_0) (writes := [5, 6, 7, 8, 11, 12, 13, 14, 15, 16, 17, 18, 19, 20, 21, 9, 10]) (exits := [0]) (rets := false) (rs := res66) (d := 3) (lib66_0 K) lp66_0 trivial (by kernel_rfl) (by kernel_rfl) (by kernel_rfl) (by kernel_rfl) (by kernel_rfl) (fun k x => impll66_0 K k x.1 x.2.1 x.2.2.1) (fun _ => rfl) (fun k x => q66_0 K (impll66_0 K k) x.1 x.2.1 x.2.2.1) K
noncomputable def L66_1 (K : Nat) : Lib := mkLib ti [(78, [e78 K]), (90, [e90 K])] [] 66 [(0, [n66_0 K])]
theorem lib66_1 (K : Nat) : LibOk Try.prog (L66_1 K) := libOk_mk (ents := [(78, [e78 K]), (90, [e90 K])]) (bodies := []) (loops := [(0, [n66_0 K])]) order tiOk ⟨one_ent (e78_ok K), one_ent (e90_ok K), trivial⟩ trivial Try.func66 rfl lp66 ⟨one_lent (n66_0_ok K), trivial⟩
noncomputable def implf66 (K : Nat) (x1 : (List Int)) : Option ((List Int)) :=
  (ob (impll66_0 K K x1 [] ((0 : Int))) fun y1 => (ob (implf78 K y1.1) fun y2 => (ob (implf90 K y1.1 y2) fun y3 => (bif y3 then some (y1.1) else (ob (implf78 K y1.1) fun y4 => some (y4))))))
theorem q66 (K : Nat) (x1 : (List Int)) : evFnK (α := (List Int)) (L66_1 K) 3 66 Try.f66.results.toList (codeOf Try.f66) ins66 res66 (fun p => p.1) (x1, ()) = implf66 K x1 := by kernel_rfl
noncomputable def e66 (K : Nat) : Ent := ⟨ins66, res66, (List Int), fun x => implf66 K x.1, fun _ => (fun y => (y, (()))), false⟩
theorem e66_ok (K : Nat) : EntOk Try.prog 66 (e66 K) := entOk_k (ins := ins66) (rs := res66) (α := (List Int)) (lib66_1 K) (d := 3) Try.func66 rfl (by kernel_rfl) (by kernel_rfl) (by kernel_rfl) (fun x => implf66 K x.1) (fun p => p.1) (fun y => (y, (()))) (fun _ => rfl) (fun x => q66 K x.1)

/-! diaphone/diaphoneref05.sorted -/
abbrev ins82 : Fs := [(.dat (.sl (.int .i64)), false)]
abbrev res82 : Sh := .own (.int .i64)
theorem lp82 : loopsIn (codeOf Try.f82) 0 = [(0, loopOf 0 (codeOf Try.f82)), (2, loopOf 2 (codeOf Try.f82))] := by kernel_rfl
noncomputable def L82_0 (K : Nat) : Lib := mkLib ti [] [] 82 []
theorem lib82_0 (K : Nat) : LibOk Try.prog (L82_0 K) := libOk_mk (ents := []) (bodies := []) (loops := []) order tiOk trivial trivial Try.func82 rfl lp82 ⟨no_lent, no_lent, trivial⟩
abbrev i82_0 : Fs := [(.own (.int Go.IntKind.i64), true), (.dat (.int Go.IntKind.i64), true)]
abbrev i82_2 : Fs := [(.own (.int Go.IntKind.i64), true), (.dat (.int Go.IntKind.i64), false), (.dat (.int Go.IntKind.i64), true)]
noncomputable def implb82_2 (K : Nat) (rc : (List Int) → Int → Int → Option ((List Int) × Int × Unit)) (x1 : (List Int)) (x2 : Int) (x3 : Int) : Option ((List Int) × Int × Unit) :=
  (bif decide (x3 > (0 : Int)) then (if (0 : Int) ≤ IntKind.i64.wrap (x3 - (1 : Int)) ∧ IntKind.i64.wrap (x3 - (1 : Int)) < (↑x1.length : Int) then (if (0 : Int) ≤ x3 ∧ x3 < (↑x1.length : Int) then (bif decide (x1.getD (IntKind.i64.wrap (x3 - (1 : Int))).toNat ((0 : Int)) > x1.getD x3.toNat ((0 : Int))) then (if (0 : Int) ≤ x3 ∧ x3 < (↑x1.length : Int) then (if (0 : Int) ≤ IntKind.i64.wrap (x3 - (1 : Int)) ∧ IntKind.i64.wrap (x3 - (1 : Int)) < (↑x1.length : Int) then (if (0 : Int) ≤ x3 ∧ x3 < (↑x1.length : Int) then (if (0 : Int) ≤ IntKind.i64.wrap (x3 - (1 : Int)) ∧ IntKind.i64.wrap (x3 - (1 : Int)) < (↑(x1.set x3.toNat (x1.getD (IntKind.i64.wrap (x3 - (1 : Int))).toNat ((0 : Int)))).length : Int) then (rc ((x1.set x3.toNat (x1.getD (IntKind.i64.wrap (x3 - (1 : Int))).toNat ((0 : Int)))).set (IntKind.i64.wrap (x3 - (1 : Int))).toNat (x1.getD x3.toNat ((0 : Int)))) x2 (IntKind.i64.wrap (x3 - (1 : Int)))) else none) else none) else none) else none) else some ((x1, x3, ()))) else none) else none) else some ((x1, x3, ())))
noncomputable def impll82_2 (K : Nat) : Nat → (List Int) → Int → Int → Option ((List Int) × Int × Unit)
  | 0, _, _, _ => none
  | k + 1, x1, x2, x3 => implb82_2 K (impll82_2 K k) x1 x2 x3
noncomputable def n82_2 (K : Nat) : Lent := ⟨[3, 4, 5], i82_2, [17, 18, 19, 20, 21, 22, 23, 24, 25, 26, 27, 28, 29, 30, 33, 34, 35, 36, 6, 37, 38, 39, 40, 41, 42, 43, 44, 45, 46, 47, 48, 49, 31, 32], [2], false, res82, fun x => impll82_2 K K x.1 x.2.1 x.2.2.1, [], none⟩
theorem q82_2 (K : Nat) (rc : (List Int) → Int → Int → Option ((List Int) × Int × Unit)) (x1 : (List Int)) (x2 : Int) (x3 : Int) : evLoop (L82_0 K) 3 82 Try.f82.results.toList (loopOf 2 (codeOf Try.f82)) 2 [3, 4, 5] [] i82_2 [2] false res82 (fun x => rc x.1 x.2.1 x.2.2.1) (x1, x2, x3, ()) = implb82_2 K rc x1 x2 x3 := by kernel_rfl
theorem lp82_2 : loopsIn (loopOf 2 (codeOf Try.f82)) 2 = [] := by kernel_rfl
theorem n82_2_ok (K : Nat) : LentOk Try.prog Try.f82 (loopOf 2 (codeOf Try.f82)) (n82_2 K) := lentOk_k (slots := [3, 4, 5]) (ali := []) (ins := i82_2) (writes := [17, 18, 19, 20, 21, 22, 23, 24, 25, 26, 27, 28, 29, 30, 33, 34, 35, 36, 6, 37, 38, 39, 40, 41, 42, 43, 44, 45, 46, 47, 48, 49, 31, 32]) (exits := [2]) (rets := false) (rs := res82) (d := 3) (lib82_0 K) lp82_2 trivial (by kernel_rfl) (by kernel_rfl) (by kernel_rfl) (by kernel_rfl) (by kernel_rfl) (fun k x => impll82_2 K k x.1 x.2.1 x.2.2.1) (fun _ => rfl) (fun k x => q82_2 K (impll82_2 K k) x.1 x.2.1 x.2.2.1) K
noncomputable def L82_1 (K : Nat) : Lib := mkLib ti [] [] 82 [(2, [n82_2 K])]
theorem lib82_1 (K : Nat) : LibOk Try.prog (L82_1 K) := libOk_mk (ents := []) (bodies := []) (loops := [(2, [n82_2 K])]) order tiOk trivial trivial Try.func82 rfl lp82 ⟨no_lent, one_lent (n82_2_ok K), trivial⟩
noncomputable def implb82_0 (K : Nat) (rc : (List Int) → Int → Option ((List Int) × Int × Unit)) (x1 : (List Int)) (x2 : Int) : Option ((List Int) × Int × Unit) :=
  (bif decide (x2 < (↑x1.length : Int)) then (ob (impll82_2 K K x1 x2 x2) fun y1 => (rc y1.1 (IntKind.i64.wrap (x2 + (1 : Int))))) else some ((x1, x2, ())))
noncomputable def impll82_0 (K : Nat) : Nat → (List Int) → Int → Option ((List Int) × Int × Unit)
  | 0, _, _ => none
  | k + 1, x1, x2 => implb82_0 K (impll82_0 K k) x1 x2
noncomputable def n82_0 (K : Nat) : Lent := ⟨[3, 4], i82_0, [10, 11, 12, 13, 16, 5, 17, 18, 19, 20, 21, 22, 23, 24, 25, 26, 27, 28, 29, 30, 33, 34, 35, 36, 6, 37, 38, 39, 40, 41, 42, 43, 44, 45, 46, 47, 48, 49, 31, 32, 14, 15], [0], false, res82, fun x => impll82_0 K K x.1 x.2.1, [], none⟩
theorem q82_0 (K : Nat) (rc : (List Int) → Int → Option ((List Int) × Int × Unit)) (x1 : (List Int)) (x2 : Int) : evLoop (L82_1 K) 3 82 Try.f82.results.toList (loopOf 0 (codeOf Try.f82)) 0 [3, 4] [] i82_0 [0] false res82 (fun x => rc x.1 x.2.1) (x1, x2, ()) = implb82_0 K rc x1 x2 := by kernel_rfl
theorem lp82_0 : loopsIn (loopOf 0 (codeOf Try.f82)) 0 = [(2, loopOf 2 (codeOf Try.f82))] := by kernel_rfl
theorem n82_0_ok (K : Nat) : LentOk Try.prog Try.f82 (loopOf 0 (codeOf Try.f82)) (n82_0 K) := lentOk_k (slots := [3, 4]) (ali := []) (ins := i82_0) (writes := [10, 11, 12, 13, 16, 5, 17, 18, 19, 20, 21, 22, 23, 24, 25, 26, 27, 28, 29, 30, 33, 34, 35, 36, 6, 37, 38, 39, 40, 41, 42, 43, 44, 45, 46, 47, 48, 49, 31, 32, 14, 15]) (exits := [0]) (rets := false) (rs := res82) (d := 3) (lib82_1 K) lp82_0 ⟨one_lent (n82_2_ok K), trivial⟩ (by kernel_rfl) (by kernel_rfl) (by kernel_rfl) (by kernel_rfl) (by kernel_rfl) (fun k x => impll82_0 K k x.1 x.2.1) (fun _ => rfl) (fun k x => q82_0 K (impll82_0 K k) x.1 x.2.1) K
noncomputable def L82_2 (K : Nat) : Lib := mkLib ti [] [] 82 [(2, [n82_2 K]), (0, [n82_0 K])]
theorem lib82_2 (K : Nat) : LibOk Try.prog (L82_2 K) := libOk_mk (ents := []) (bodies := []) (loops := [(2, [n82_2 K]), (0, [n82_0 K])]) order tiOk trivial trivial Try.func82 rfl lp82 ⟨one_lent (n82_0_ok K), one_lent (n82_2_ok K), trivial⟩
noncomputable def implf82 (K : Nat) (x1 : (List Int)) : Option ((List Int)) :=
  (if ((List.replicate 0 ((0 : Int))).length + x1.length) * 8 ≤ 140737488355328 then (ob (impll82_0 K K (List.replicate 0 ((0 : Int)) ++ x1) ((0 : Int))) fun y1 => some (y1.1)) else none)
theorem q82 (K : Nat) (x1 : (List Int)) : evFnK (α := (List Int)) (L82_2 K) 3 82 Try.f82.results.toList (codeOf Try.f82) ins82 res82 (fun p => p.1) (x1, ()) = implf82 K x1 := by kernel_rfl
noncomputable def e82 (K : Nat) : Ent := ⟨ins82, res82, (List Int), fun x => implf82 K x.1, fun _ => (fun y => (y, (()))), false⟩
theorem e82_ok (K : Nat) : EntOk Try.prog 82 (e82 K) := entOk_k (ins := ins82) (rs := res82) (α := (List Int)) (lib82_2 K) (d := 3) Try.func82 rfl (by kernel_rfl) (by kernel_rfl) (by kernel_rfl) (fun x => implf82 K x.1) (fun p => p.1) (fun y => (y, (()))) (fun _ => rfl) (fun x => q82 K x.1)

/-! diaphone/diaphoneref05.delays -/
abbrev ins71 : Fs := [(.dat (.sl (.int .i64)), false)]
abbrev res71 : Sh := .own (.int .i64)
theorem lp71 : loopsIn (codeOf Try.f71) 0 = [(0, loopOf 0 (codeOf Try.f71)), (2, loopOf 2 (codeOf Try.f71))] := by kernel_rfl
noncomputable def L71_0 (K : Nat) : Lib := mkLib ti [(82, [e82 K])] [] 71 []
theorem lib71_0 (K : Nat) : LibOk Try.prog (L71_0 K) := libOk_mk (ents := [(82, [e82 K])]) (bodies := []) (loops := []) order tiOk ⟨one_ent (e82_ok K), trivial⟩ trivial Try.func71 rfl lp71 ⟨no_lent, no_lent, trivial⟩
abbrev i71_0 : Fs := [(.dat (.sl (.int Go.IntKind.i64)), false), (.own (.int .i64), true), (.dat (.int Go.IntKind.i64), true)]
abbrev i71_2 : Fs := [(.dat (.sl (.int Go.IntKind.i64)), false), (.own (.int Go.IntKind.i64), true), (.dat (.int Go.IntKind.i64), false), (.dat (.int Go.IntKind.i64), true)]
noncomputable def implb71_2 (K : Nat) (rc : (List Int) → (List Int) → Int → Int → Option ((List Int) × Int × Unit)) (x1 : (List Int)) (x2 : (List Int)) (x3 : Int) (x4 : Int) : Option ((List Int) × Int × Unit) :=
  (bif decide (x4 < x3) then (if (0 : Int) ≤ x3 ∧ x3 < (↑x1.length : Int) then (if (0 : Int) ≤ x4 ∧ x4 < (↑x1.length : Int) then (if (x2.length + ((List.replicate 1 ((0 : Int))).set 0 (IntKind.i64.wrap (x1.getD x3.toNat ((0 : Int)) - x1.getD x4.toNat ((0 : Int))))).length) * 8 ≤ 140737488355328 then (rc x1 (x2 ++ (List.replicate 1 ((0 : Int))).set 0 (IntKind.i64.wrap (x1.getD x3.toNat ((0 : Int)) - x1.getD x4.toNat ((0 : Int))))) x3 (IntKind.i64.wrap (x4 + (1 : Int)))) else none) else none) else none) else some ((x2, x4, ())))
noncomputable def impll71_2 (K : Nat) : Nat → (List Int) → (List Int) → Int → Int → Option ((List Int) × Int × Unit)
  | 0, _, _, _, _ => none
  | k + 1, x1, x2, x3, x4 => implb71_2 K (impll71_2 K k) x1 x2 x3 x4
noncomputable def n71_2 (K : Nat) : Lent := ⟨[0, 3, 4, 5], i71_2, [12, 13, 14, 17, 18, 19, 20, 21, 22, 23, 24, 25, 26, 27, 28, 15, 16], [2], false, res71, fun x => impll71_2 K K x.1 x.2.1 x.2.2.1 x.2.2.2.1, [], none⟩
theorem q71_2 (K : Nat) (rc : (List Int) → (List Int) → Int → Int → Option ((List Int) × Int × Unit)) (x1 : (List Int)) (x2 : (List Int)) (x3 : Int) (x4 : Int) : evLoop (L71_0 K) 3 71 Try.f71.results.toList (loopOf 2 (codeOf Try.f71)) 2 [0, 3, 4, 5] [] i71_2 [2] false res71 (fun x => rc x.1 x.2.1 x.2.2.1 x.2.2.2.1) (x1, x2, x3, x4, ()) = implb71_2 K rc x1 x2 x3 x4 := by kernel_rfl
theorem lp71_2 : loopsIn (loopOf 2 (codeOf Try.f71)) 2 = [] := by kernel_rfl
theorem n71_2_ok (K : Nat) : LentOk Try.prog Try.f71 (loopOf 2 (codeOf Try.f71)) (n71_2 K) := lentOk_k (slots := [0, 3, 4, 5]) (ali := []) (ins := i71_2) (writes := [12, 13, 14, 17, 18, 19, 20, 21, 22, 23, 24, 25, 26, 27, 28, 15, 16]) (exits := [2]) (rets := false) (rs := res71) (d := 3) (lib71_0 K) lp71_2 trivial (by kernel_rfl) (by kernel_rfl) (by kernel_rfl) (by kernel_rfl) (by kernel_rfl) (fun k x => impll71_2 K k x.1 x.2.1 x.2.2.1 x.2.2.2.1) (fun _ => rfl) (fun k x => q71_2 K (impll71_2 K k) x.1 x.2.1 x.2.2.1 x.2.2.2.1) K
noncomputable def L71_1 (K : Nat) : Lib := mkLib ti [(82, [e82 K])] [] 71 [(2, [n71_2 K])]
theorem lib71_1 (K : Nat) : LibOk Try.prog (L71_1 K) := libOk_mk (ents := [(82, [e82 K])]) (bodies := []) (loops := [(2, [n71_2 K])]) order tiOk ⟨one_ent (e82_ok K), trivial⟩ trivial Try.func71 rfl lp71 ⟨no_lent, one_lent (n71_2_ok K), trivial⟩
noncomputable def implb71_0 (K : Nat) (rc : (List Int) → (List Int) → Int → Option ((List Int) × Int × Unit)) (x1 : (List Int)) (x2 : (List Int)) (x3 : Int) : Option ((List Int) × Int × Unit) :=
  (bif decide (x3 < (↑x1.length : Int)) then (ob (impll71_2 K K x1 x2 x3 ((0 : Int))) fun y1 => (rc x1 y1.1 (IntKind.i64.wrap (x3 + (1 : Int))))) else some ((x2, x3, ())))
noncomputable def impll71_0 (K : Nat) : Nat → (List Int) → (List Int) → Int → Option ((List Int) × Int × Unit)
  | 0, _, _, _ => none
  | k + 1, x1, x2, x3 => implb71_0 K (impll71_0 K k) x1 x2 x3
noncomputable def n71_0 (K : Nat) : Lent := ⟨[0, 3, 4], i71_0, [6, 7, 8, 9, 5, 12, 13, 14, 17, 18, 19, 20, 21, 22, 23, 24, 25, 26, 27, 28, 15, 16, 10, 11], [0], false, res71, fun x => impll71_0 K K x.1 x.2.1 x.2.2.1, [], none⟩
theorem q71_0 (K : Nat) (rc : (List Int) → (List Int) → Int → Option ((List Int) × Int × Unit)) (x1 : (List Int)) (x2 : (List Int)) (x3 : Int) : evLoop (L71_1 K) 3 71 Try.f71.results.toList (loopOf 0 (codeOf Try.f71)) 0 [0, 3, 4] [] i71_0 [0] false res71 (fun x => rc x.1 x.2.1 x.2.2.1) (x1, x2, x3, ()) = implb71_0 K rc x1 x2 x3 := by kernel_rfl
theorem lp71_0 : loopsIn (loopOf 0 (codeOf Try.f71)) 0 = [(2, loopOf 2 (codeOf Try.f71))] := by kernel_rfl
theorem n71_0_ok (K : Nat) : LentOk Try.prog Try.f71 (loopOf 0 (codeOf Try.f71)) (n71_0 K) := lentOk_k (slots := [0, 3, 4]) (ali := []) (ins := i71_0) (writes := [6, 7, 8, 9, 5, 12, 13, 14, 17, 18, 19, 20, 21, 22, 23, 24, 25, 26, 27, 28, 15, 16, 10, 11]) (exits := [0]) (rets := false) (rs := res71) (d := 3) (lib71_1 K) lp71_0 ⟨one_lent (n71_2_ok K), trivial⟩ (by kernel_rfl) (by kernel_rfl) (by kernel_rfl) (by kernel_rfl) (by kernel_rfl) (fun k x => impll71_0 K k x.1 x.2.1 x.2.2.1) (fun _ => rfl) (fun k x => q71_0 K (impll71_0 K k) x.1 x.2.1 x.2.2.1) K
noncomputable def L71_2 (K : Nat) : Lib := mkLib ti [(82, [e82 K])] [] 71 [(2, [n71_2 K]), (0, [n71_0 K])]
theorem lib71_2 (K : Nat) : LibOk Try.prog (L71_2 K) := libOk_mk (ents := [(82, [e82 K])]) (bodies := []) (loops := [(2, [n71_2 K]), (0, [n71_0 K])]) order tiOk ⟨one_ent (e82_ok K), trivial⟩ trivial Try.func71 rfl lp71 ⟨one_lent (n71_0_ok K), one_lent (n71_2_ok K), trivial⟩
noncomputable def implf71 (K : Nat) (x1 : (List Int)) : Option ((List Int)) :=
  (ob (impll71_0 K K x1 [] ((0 : Int))) fun y1 => (ob (implf82 K y1.1) fun y2 => some (y2)))
theorem q71 (K : Nat) (x1 : (List Int)) : evFnK (α := (List Int)) (L71_2 K) 3 71 Try.f71.results.toList (codeOf Try.f71) ins71 res71 (fun p => p.1) (x1, ()) = implf71 K x1 := by kernel_rfl
noncomputable def e71 (K : Nat) : Ent := ⟨ins71, res71, (List Int), fun x => implf71 K x.1, fun _ => (fun y => (y, (()))), false⟩
theorem e71_ok (K : Nat) : EntOk Try.prog 71 (e71 K) := entOk_k (ins := ins71) (rs := res71) (α := (List Int)) (lib71_2 K) (d := 3) Try.func71 rfl (by kernel_rfl) (by kernel_rfl) (by kernel_rfl) (fun x => implf71 K x.1) (fun p => p.1) (fun y => (y, (()))) (fun _ => rfl) (fun x => q71 K x.1)

/-! diaphone/diaphoneref05.within -/
abbrev ins63 : Fs := [(.dat (.int .i64), false), (.dat (.int .i64), false), (.dat (.int .i64), false)]
abbrev res63 : Sh := .dat (.bool)
theorem lp63 : loopsIn (codeOf Try.f63) 0 = [] := by kernel_rfl
noncomputable def L63_0 (K : Nat) : Lib := mkLib ti [] [] 63 []
theorem lib63_0 (K : Nat) : LibOk Try.prog (L63_0 K) := libOk_mk (ents := []) (bodies := []) (loops := []) order tiOk trivial trivial Try.func63 rfl lp63 trivial
noncomputable def implf63 (K : Nat) (x1 : Int) (x2 : Int) (x3 : Int) : Option (Bool) :=
  (bif decide (x1 ≥ x2) then some (decide (x1 ≤ x3)) else some (false))
theorem q63 (K : Nat) (x1 : Int) (x2 : Int) (x3 : Int) : evFnK (α := Bool) (L63_0 K) 3 63 Try.f63.results.toList (codeOf Try.f63) ins63 res63 (fun p => p.1) (x1, x2, x3, ()) = implf63 K x1 x2 x3 := by kernel_rfl
noncomputable def e63 (K : Nat) : Ent := ⟨ins63, res63, Bool, fun x => implf63 K x.1 x.2.1 x.2.2.1, fun _ => (fun y => (y, (()))), false⟩
theorem e63_ok (K : Nat) : EntOk Try.prog 63 (e63 K) := entOk_k (ins := ins63) (rs := res63) (α := Bool) (lib63_0 K) (d := 3) Try.func63 rfl (by kernel_rfl) (by kernel_rfl) (by kernel_rfl) (fun x => implf63 K x.1 x.2.1 x.2.2.1) (fun p => p.1) (fun y => (y, (()))) (fun _ => rfl) (fun x => q63 K x.1 x.2.1 x.2.2.1)

/-! diaphone/diaphoneref05.cliffs -/
abbrev ins87 : Fs := [(.dat (.int .i64), false)]
abbrev res87 : Sh := .dat (.int .i64)
theorem lp87 : loopsIn (codeOf Try.f87) 0 = [(0, loopOf 0 (codeOf Try.f87))] := by kernel_rfl
noncomputable def L87_0 (K : Nat) : Lib := mkLib ti [] [] 87 []
theorem lib87_0 (K : Nat) : LibOk Try.prog (L87_0 K) := libOk_mk (ents := []) (bodies := []) (loops := []) order tiOk trivial trivial Try.func87 rfl lp87 ⟨no_lent, trivial⟩
abbrev i87_0 : Fs := [(.dat (.int Go.IntKind.i64), false), (.dat (.int Go.IntKind.i64), true)]
noncomputable def implb87_0 (K : Nat) (rc : Int → Int → Option (Sum (Int × Unit) Int)) (x1 : Int) (x2 : Int) : Option (Sum (Int × Unit) Int) :=
  (bif decide (x2 ≤ (6 : Int)) then (bif IntKind.i64.wrap ((IntKind.i64.wrap (x2 * IntKind.i64.wrap (x2 - (1 : Int)))).tdiv (2 : Int)) == x1 then some (Sum.inr x2) else (rc x1 (IntKind.i64.wrap (x2 + (1 : Int))))) else some (Sum.inl (x2, ())))
noncomputable def impll87_0 (K : Nat) : Nat → Int → Int → Option (Sum (Int × Unit) Int)
  | 0, _, _ => none
  | k + 1, x1, x2 => implb87_0 K (impll87_0 K k) x1 x2
noncomputable def n87_0 (K : Nat) : Lent := ⟨[0, 3], i87_0, [4, 5, 8, 9, 10, 11, 12, 13, 14, 15, 2, 6, 7], [0], true, res87, fun x => impll87_0 K K x.1 x.2.1, [], none⟩
theorem q87_0 (K : Nat) (rc : Int → Int → Option (Sum (Int × Unit) Int)) (x1 : Int) (x2 : Int) : evLoop (L87_0 K) 3 87 Try.f87.results.toList (loopOf 0 (codeOf Try.f87)) 0 [0, 3] [] i87_0 [0] true res87 (fun x => rc x.1 x.2.1) (x1, x2, ()) = implb87_0 K rc x1 x2 := by kernel_rfl
theorem lp87_0 : loopsIn (loopOf 0 (codeOf Try.f87)) 0 = [] := by kernel_rfl
theorem n87_0_ok (K : Nat) : LentOk Try.prog Try.f87 (loopOf 0 (codeOf Try.f87)) (n87_0 K) := lentOk_k (slots := [0, 3]) (ali := []) (ins := i87_0) (writes := [4, 5, 8, 9, 10, 11, 12, 13, 14, 15, 2, 6, 7]) (exits := [0]) (rets := true) (rs := res87) (d := 3) (lib87_0 K) lp87_0 trivial (by kernel_rfl) (by kernel_rfl) (by kernel_rfl) (by kernel_rfl) (by kernel_rfl) (fun k x => impll87_0 K k x.1 x.2.1) (fun _ => rfl) (fun k x => q87_0 K (impll87_0 K k) x.1 x.2.1) K
noncomputable def L87_1 (K : Nat) : Lib := mkLib ti [] [] 87 [(0, [n87_0 K])]
theorem lib87_1 (K : Nat) : LibOk Try.prog (L87_1 K) := libOk_mk (ents := []) (bodies := []) (loops := [(0, [n87_0 K])]) order tiOk trivial trivial Try.func87 rfl lp87 ⟨one_lent (n87_0_ok K), trivial⟩
noncomputable def implf87 (K : Nat) (x1 : Int) : Option (Int) :=
  (ob (impll87_0 K K x1 ((1 : Int))) fun y1 => (match y1 with | .inl y2 => some ((0 : Int)) | .inr y2 => some (y2)))
theorem q87 (K : Nat) (x1 : Int) : evFnK (α := Int) (L87_1 K) 3 87 Try.f87.results.toList (codeOf Try.f87) ins87 res87 (fun p => p.1) (x1, ()) = implf87 K x1 := by kernel_rfl
noncomputable def e87 (K : Nat) : Ent := ⟨ins87, res87, Int, fun x => implf87 K x.1, fun _ => (fun y => (y, (()))), false⟩
theorem e87_ok (K : Nat) : EntOk Try.prog 87 (e87 K) := entOk_k (ins := ins87) (rs := res87) (α := Int) (lib87_1 K) (d := 3) Try.func87 rfl (by kernel_rfl) (by kernel_rfl) (by kernel_rfl) (fun x => implf87 K x.1) (fun p => p.1) (fun y => (y, (()))) (fun _ => rfl) (fun x => q87 K x.1)

/-! diaphone/diaphoneref05.isDelays -/
abbrev ins73 : Fs := [(.dat (.sl (.int .i64)), false)]
abbrev res73 : Sh := .dat (.int .i64)
theorem lp73 : loopsIn (codeOf Try.f73) 0 = [(0, loopOf 0 (codeOf Try.f73))] := by kernel_rfl
noncomputable def L73_0 (K : Nat) : Lib := mkLib ti [(63, [e63 K]), (87, [e87 K])] [] 73 []
theorem lib73_0 (K : Nat) : LibOk Try.prog (L73_0 K) := libOk_mk (ents := [(63, [e63 K]), (87, [e87 K])]) (bodies := []) (loops := []) order tiOk ⟨one_ent (e63_ok K), one_ent (e87_ok K), trivial⟩ trivial Try.func73 rfl lp73 ⟨no_lent, trivial⟩
abbrev i73_0 : Fs := [(.dat (.sl (.int Go.IntKind.i64)), false), (.dat (.int Go.IntKind.i64), true)]
noncomputable def implb73_0 (K : Nat) (rc : (List Int) → Int → Option (Sum (Int × Unit) Int)) (x1 : (List Int)) (x2 : Int) : Option (Sum (Int × Unit) Int) :=
  (bif decide (x2 < (↑x1.length : Int)) then (if (0 : Int) ≤ x2 ∧ x2 < (↑x1.length : Int) then (ob (implf63 K (x1.getD x2.toNat ((0 : Int))) ((1 : Int)) ((60 : Int))) fun y1 => (bif !y1 then some (Sum.inr ((1 : Int))) else (bif decide (x2 > (0 : Int)) then (if (0 : Int) ≤ IntKind.i64.wrap (x2 - (1 : Int)) ∧ IntKind.i64.wrap (x2 - (1 : Int)) < (↑x1.length : Int) then (if (0 : Int) ≤ x2 ∧ x2 < (↑x1.length : Int) then (bif decide (x1.getD (IntKind.i64.wrap (x2 - (1 : Int))).toNat ((0 : Int)) > x1.getD x2.toNat ((0 : Int))) then some (Sum.inr ((1 : Int))) else (rc x1 (IntKind.i64.wrap (x2 + (1 : Int))))) else none) else none) else (rc x1 (IntKind.i64.wrap (x2 + (1 : Int))))))) else none) else some (Sum.inl (x2, ())))
noncomputable def impll73_0 (K : Nat) : Nat → (List Int) → Int → Option (Sum (Int × Unit) Int)
  | 0, _, _ => none
  | k + 1, x1, x2 => implb73_0 K (impll73_0 K k) x1 x2
noncomputable def n73_0 (K : Nat) : Lent := ⟨[0, 3], i73_0, [7, 8, 9, 10, 13, 14, 15, 16, 17, 18, 19, 20, 21, 22, 23, 24, 25, 26, 27, 28, 29, 30, 31, 32, 33, 34, 2, 11, 12], [0], true, res73, fun x => impll73_0 K K x.1 x.2.1, [], none⟩
theorem q73_0 (K : Nat) (rc : (List Int) → Int → Option (Sum (Int × Unit) Int)) (x1 : (List Int)) (x2 : Int) : evLoop (L73_0 K) 3 73 Try.f73.results.toList (loopOf 0 (codeOf Try.f73)) 0 [0, 3] [] i73_0 [0] true res73 (fun x => rc x.1 x.2.1) (x1, x2, ()) = implb73_0 K rc x1 x2 := by kernel_rfl
theorem lp73_0 : loopsIn (loopOf 0 (codeOf Try.f73)) 0 = [] := by kernel_rfl
theorem n73_0_ok (K : Nat) : LentOk Try.prog Try.f73 (loopOf 0 (codeOf Try.f73)) (n73_0 K) := lentOk_k (slots := [0, 3]) (ali := []) (ins := i73_0) (writes := [7, 8, 9, 10, 13, 14, 15, 16, 17, 18, 19, 20, 21, 22, 23, 24, 25, 26, 27, 28, 29, 30, 31, 32, 33, 34, 2, 11, 12]) (exits := [0]) (rets := true) (rs := res73) (d := 3) (lib73_0 K) lp73_0 trivial (by kernel_rfl) (by kernel_rfl) (by kernel_rfl) (by kernel_rfl) (by kernel_rfl) (fun k x => impll73_0 K k x.1 x.2.1) (fun _ => rfl) (fun k x => q73_0 K (impll73_0 K k) x.1 x.2.1) K
noncomputable def L73_1 (K : Nat) : Lib := mkLib ti [(63, [e63 K]), (87, [e87 K])] [] 73 [(0, [n73_0 K])]
theorem lib73_1 (K : Nat) : LibOk Try.prog (L73_1 K) := libOk_mk (ents := [(63, [e63 K]), (87, [e87 K])]) (bodies := []) (loops := [(0, [n73_0 K])]) order tiOk ⟨one_ent (e63_ok K), one_ent (e87_ok K), trivial⟩ trivial Try.func73 rfl lp73 ⟨one_lent (n73_0_ok K), trivial⟩
noncomputable def implf73 (K : Nat) (x1 : (List Int)) : Option (Int) :=
  (bif decide ((↑x1.length : Int) > (15 : Int)) then some ((3 : Int)) else (ob (impll73_0 K K x1 ((0 : Int))) fun y1 => (match y1 with | .inl y2 => (ob (implf87 K ((↑x1.length : Int))) fun y3 => (bif y3 == (0 : Int) then some ((1 : Int)) else some ((0 : Int)))) | .inr y2 => some (y2))))
theorem q73 (K : Nat) (x1 : (List Int)) : evFnK (α := Int) (L73_1 K) 3 73 Try.f73.results.toList (codeOf Try.f73) ins73 res73 (fun p => p.1) (x1, ()) = implf73 K x1 := by kernel_rfl
noncomputable def e73 (K : Nat) : Ent := ⟨ins73, res73, Int, fun x => implf73 K x.1, fun _ => (fun y => (y, (()))), false⟩
theorem e73_ok (K : Nat) : EntOk Try.prog 73 (e73 K) := entOk_k (ins := ins73) (rs := res73) (α := Int) (lib73_1 K) (d := 3) Try.func73 rfl (by kernel_rfl) (by kernel_rfl) (by kernel_rfl) (fun x => implf73 K x.1) (fun p => p.1) (fun y => (y, (()))) (fun _ => rfl) (fun x => q73 K x.1)

/-! diaphone/diaphoneref05.All -/
abbrev ins54 : Fs := [(.dat (.sl (.int .i64)), false)]
abbrev res54 : Sh := .cons (.own (.sl (.int .i64))) (.cons (.dat (.int .i64)) (.un))
theorem lp54 : loopsIn (codeOf Try.f54) 0 = [(0, loopOf 0 (codeOf Try.f54))] := by kernel_rfl
noncomputable def L54_0 (K : Nat) : Lib := mkLib ti [(24, [e24 K]), (64, [e64b K, e64a K]), (66, [e66 K]), (71, [e71 K]), (73, [e73 K]), (87, [e87 K])] [] 54 []
theorem lib54_0 (K : Nat) : LibOk Try.prog (L54_0 K) := libOk_mk (ents := [(24, [e24 K]), (64, [e64b K, e64a K]), (66, [e66 K]), (71, [e71 K]), (73, [e73 K]), (87, [e87 K])]) (bodies := []) (loops := []) order tiOk ⟨one_ent (e24_ok K), more_ent (e64b_ok K) (one_ent (e64a_ok K)), one_ent (e66_ok K), one_ent (e71_ok K), one_ent (e73_ok K), one_ent (e87_ok K), trivial⟩ trivial Try.func54 rfl lp54 ⟨no_lent, trivial⟩
abbrev i54_0 : Fs := [(.dat (.sl (.int Go.IntKind.i64)), false), (.own (.sl (.int Go.IntKind.i64)), false), (.own (.sl (.int .i64)), true), (.dat (.int Go.IntKind.i64), true)]
noncomputable def implb54_0 (K : Nat) (rc : (List Int) → (List (List Int)) → (List (List Int)) → Int → Option ((List (List Int)) × Int × Unit)) (x1 : (List Int)) (x2 : (List (List Int))) (x3 : (List (List Int))) (x4 : Int) : Option ((List (List Int)) × Int × Unit) :=
  (bif decide (x4 < (↑x2.length : Int)) then (if (0 : Int) ≤ x4 ∧ x4 < (↑x2.length : Int) then (ob (implf71 K (x2.getD x4.toNat [])) fun y1 => (ob (implf24 K y1 x1) fun y2 => (bif y2 then (if (0 : Int) ≤ x4 ∧ x4 < (↑x2.length : Int) then (ob (implf66 K (x2.getD x4.toNat [])) fun y3 => (if (0 : Int) ≤ x4 ∧ x4 < (↑x2.length : Int) then (ob (implf24 K y3 (x2.getD x4.toNat [])) fun y4 => (bif y4 then (if (0 : Int) ≤ x4 ∧ x4 < (↑x2.length : Int) then (if (x3.length + ((List.replicate 1 []).set 0 (x2.getD x4.toNat [])).length) * 24 ≤ 140737488355328 then (rc x1 x2 (x3 ++ (List.replicate 1 []).set 0 (x2.getD x4.toNat [])) (IntKind.i64.wrap (x4 + (1 : Int)))) else none) else none) else (rc x1 x2 x3 (IntKind.i64.wrap (x4 + (1 : Int)))))) else none)) else none) else (rc x1 x2 x3 (IntKind.i64.wrap (x4 + (1 : Int))))))) else none) else some ((x3, x4, ())))
noncomputable def impll54_0 (K : Nat) : Nat → (List Int) → (List (List Int)) → (List (List Int)) → Int → Option ((List (List Int)) × Int × Unit)
  | 0, _, _, _, _ => none
  | k + 1, x1, x2, x3, x4 => implb54_0 K (impll54_0 K k) x1 x2 x3 x4
noncomputable def n54_0 (K : Nat) : Lent := ⟨[0, 5, 6, 7], i54_0, [30, 31, 32, 33, 36, 37, 38, 39, 40, 41, 42, 43, 44, 45, 46, 47, 48, 49, 50, 51, 52, 53, 54, 55, 56, 57, 58, 59, 60, 61, 34, 35], [0], false, res54, fun x => impll54_0 K K x.1 x.2.1 x.2.2.1 x.2.2.2.1, [], none⟩
theorem q54_0 (K : Nat) (rc : (List Int) → (List (List Int)) → (List (List Int)) → Int → Option ((List (List Int)) × Int × Unit)) (x1 : (List Int)) (x2 : (List (List Int))) (x3 : (List (List Int))) (x4 : Int) : evLoop (L54_0 K) 3 54 Try.f54.results.toList (loopOf 0 (codeOf Try.f54)) 0 [0, 5, 6, 7] [] i54_0 [0] false res54 (fun x => rc x.1 x.2.1 x.2.2.1 x.2.2.2.1) (x1, x2, x3, x4, ()) = implb54_0 K rc x1 x2 x3 x4 := by kernel_rfl
theorem lp54_0 : loopsIn (loopOf 0 (codeOf Try.f54)) 0 = [] := by kernel_rfl
theorem n54_0_ok (K : Nat) : LentOk Try.prog Try.f54 (loopOf 0 (codeOf Try.f54)) (n54_0 K) := lentOk_k (slots := [0, 5, 6, 7]) (ali := []) (ins := i54_0) (writes := [30, 31, 32, 33, 36, 37, 38, 39, 40, 41, 42, 43, 44, 45, 46, 47, 48, 49, 50, 51, 52, 53, 54, 55, 56, 57, 58, 59, 60, 61, 34, 35]) (exits := [0]) (rets := false) (rs := res54) (d := 3) (lib54_0 K) lp54_0 trivial (by kernel_rfl) (by kernel_rfl) (by kernel_rfl) (by kernel_rfl) (by kernel_rfl) (fun k x => impll54_0 K k x.1 x.2.1 x.2.2.1 x.2.2.2.1) (fun _ => rfl) (fun k x => q54_0 K (impll54_0 K k) x.1 x.2.1 x.2.2.1 x.2.2.2.1) K
noncomputable def L54_1 (K : Nat) : Lib := mkLib ti [(24, [e24 K]), (64, [e64b K, e64a K]), (66, [e66 K]), (71, [e71 K]), (73, [e73 K]), (87, [e87 K])] [] 54 [(0, [n54_0 K])]
theorem lib54_1 (K : Nat) : LibOk Try.prog (L54_1 K) := libOk_mk (ents := [(24, [e24 K]), (64, [e64b K, e64a K]), (66, [e66 K]), (71, [e71 K]), (73, [e73 K]), (87, [e87 K])]) (bodies := []) (loops := [(0, [n54_0 K])]) order tiOk ⟨one_ent (e24_ok K), more_ent (e64b_ok K) (one_ent (e64a_ok K)), one_ent (e66_ok K), one_ent (e71_ok K), one_ent (e73_ok K), one_ent (e87_ok K), trivial⟩ trivial Try.func54 rfl lp54 ⟨one_lent (n54_0_ok K), trivial⟩
noncomputable def implf54 (K : Nat) (x1 : (List Int)) : Option ((List (List Int)) × Int) :=
  (ob (implf73 K x1) fun y1 => (bif y1 != (0 : Int) then some (([], y1)) else (bif (↑x1.length : Int) == (0 : Int) then some (((List.replicate 1 []).set 0 ((List.replicate 1 ((0 : Int))).set 0 ((0 : Int))), (0 : Int))) else (ob (implf87 K ((↑x1.length : Int))) fun y2 => (if (0 : Int) ≤ IntKind.i64.wrap ((↑x1.length : Int) - (1 : Int)) ∧ IntKind.i64.wrap ((↑x1.length : Int) - (1 : Int)) < (↑x1.length : Int) then (ob (implf64a K x1 (IntKind.i64.wrap (y2 - (2 : Int))) (x1.getD (IntKind.i64.wrap ((↑x1.length : Int) - (1 : Int))).toNat ((0 : Int)))) fun y3 => (ob (impll54_0 K K x1 y3 [] ((0 : Int))) fun y4 => some ((y4.1, (0 : Int))))) else none)))))
theorem q54 (K : Nat) (x1 : (List Int)) : evFnK (α := (List (List Int)) × Int) (L54_1 K) 3 54 Try.f54.results.toList (codeOf Try.f54) ins54 res54 (fun p => (p.1.1, p.1.2.1)) (x1, ()) = implf54 K x1 := by kernel_rfl
noncomputable def e54 (K : Nat) : Ent := ⟨ins54, res54, (List (List Int)) × Int, fun x => implf54 K x.1, fun _ => (fun y => ((y.1, y.2, ()), (()))), false⟩
theorem e54_ok (K : Nat) : EntOk Try.prog 54 (e54 K) := entOk_k (ins := ins54) (rs := res54) (α := (List (List Int)) × Int) (lib54_1 K) (d := 3) Try.func54 rfl (by kernel_rfl) (by kernel_rfl) (by kernel_rfl) (fun x => implf54 K x.1) (fun p => (p.1.1, p.1.2.1)) (fun y => ((y.1, y.2, ()), (()))) (fun _ => rfl) (fun x => q54 K x.1)

end Go.Proofs.Ytdgibokmaannjaa
