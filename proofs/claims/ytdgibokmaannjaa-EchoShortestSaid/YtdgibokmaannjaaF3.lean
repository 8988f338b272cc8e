/- What the functions compute: printed by a program of this claim's author. -/
import Derived.Test.YtdgibokmaannjaaF2
set_option maxRecDepth 100000
set_option linter.unusedVariables false
set_option linter.unusedSimpArgs false
namespace Go.Proofs.Ytdgibokmaannjaa
open Go Go.Pv

/-! diaphone/diaphonelaw05.sane -/
abbrev ins19 : Fs := []
abbrev res19 : Sh := .dat (.bool)
theorem lp19 : loopsIn (codeOf Try.f19) 0 = [] := by kernel_rfl
noncomputable def L19_0 (K : Nat) : Lib := mkLibR ti [(58, [e58 K]), (24, [e24 K]), (25, [e25 K]), (37, [e37 K]), (57, [e57 K])] [(22, Try.f22)] 19 [] [] [37] [] []
theorem lib19_0 (K : Nat) : LibOk Try.prog (L19_0 K) := libOk_mkR (ents := [(58, [e58 K]), (24, [e24 K]), (25, [e25 K]), (37, [e37 K]), (57, [e57 K])]) (bodies := [(22, Try.f22)]) (loops := []) order tiOk ⟨one_ent (e58_ok K), one_ent (e24_ok K), one_ent (e25_ok K), one_ent (e37_ok K), one_ent (e57_ok K), trivial⟩ ⟨bod22, trivial⟩ Try.func19 rfl lp19 trivial (rngs := []) trivial (frz := [37]) (opts := []) trivial
noncomputable def implf19 (K : Nat)  : Option (Bool) :=
  (ob (implf37 K ((((List.replicate 3 ((0 : Int))).set 0 ((1 : Int))).set 1 ((3 : Int))).set 2 ((4 : Int)))) fun y1 => (ob (implf58 K (((List.replicate 2 ((0 : Int))).set 0 ((0 : Int))).set 1 ((1 : Int))) (((List.replicate 2 ((0 : Int))).set 0 ((0 : Int))).set 1 ((3 : Int))) (-1 : Int)) fun y2 => (ob (implf25 K ((4 : Int))) fun y3 => (bif y1.2 == (0 : Int) then (ob (implf57 K y1.1 ((List.replicate 1 []).set 0 ((((List.replicate 3 ((0 : Int))).set 0 ((0 : Int))).set 1 ((1 : Int))).set 2 ((4 : Int))))) fun y4 => (bif y4 then (bif y2.2 == (0 : Int) then (ob (implf24 K y2.1 (((((List.replicate 4 ((0 : Int))).set 0 (-3 : Int)).set 1 (-2 : Int)).set 2 ((0 : Int))).set 3 ((1 : Int)))) fun y5 => (bif y5 then (bif y3.2 == (0 : Int) then (ob (implf24 K y3.1 (((((List.replicate 4 ((0 : Int))).set 0 ((0 : Int))).set 1 ((1 : Int))).set 2 ((4 : Int))).set 3 ((6 : Int)))) fun y6 => some (y6)) else some (false)) else some (false))) else some (false)) else some (false))) else some (false)))))
theorem q19 (K : Nat)  : evFnK (α := Bool) (L19_0 K) 3 19 Try.f19.results.toList (codeOf Try.f19) ins19 res19 (fun p => p.1) (()) = implf19 K  := by kernel_rfl
noncomputable def e19 (K : Nat) : Ent := ⟨ins19, res19, Bool, fun x => implf19 K , fun _ => (fun y => (y, (()))), false⟩
theorem e19_ok (K : Nat) : EntOk Try.prog 19 (e19 K) := entOk_k (ins := ins19) (rs := res19) (α := Bool) (lib19_0 K) (d := 3) Try.func19 rfl (by kernel_rfl) (by kernel_rfl) (by kernel_rfl) (fun x => implf19 K ) (fun p => p.1) (fun y => (y, (()))) (fun _ => rfl) (fun x => q19 K )

/-! diaphone/diaphoneref05.within -/
abbrev ins63 : Fs := [(.dat (.int .i64), false), (.dat (.int .i64), false), (.dat (.int .i64), false)]
abbrev res63 : Sh := .dat (.bool)
theorem lp63 : loopsIn (codeOf Try.f63) 0 = [] := by kernel_rfl
noncomputable def L63_0 (K : Nat) : Lib := mkLib ti [] [] 63 []
theorem lib63_0 (K : Nat) : LibOk Try.prog (L63_0 K) := libOk_mk (ents := []) (bodies := []) (loops := []) order tiOk trivial trivial Try.func63 rfl lp63 trivial
noncomputable def implf63 (K : Nat) (x1 : Int) (x2 : Int) (x3 : Int) : Option (Bool) :=
  (bif decide (x1 ≥ x2) then some (decide (x1 ≤ x3)) else some (false))
theorem q63 (K : Nat) (x1 : Int) (x2 : Int) (x3 : Int) : evFnK (α := Bool) (L63_0 K) 3 63 Try.f63.results.toList (codeOf Try.f63) ins63 res63 (fun p => p.1) (x1, x2, x3, ()) = implf63 K x1 x2 x3 := by kernel_rfl
noncomputable def e63 (K : Nat) : Ent := ⟨ins63, res63, Bool, fun x => implf63 K x.1 x.2.1 x.2.2.1, fun _ => (fun y => (y, (()))), false⟩
theorem e63_ok (K : Nat) : EntOk Try.prog 63 (e63 K) := entOk_k (ins := ins63) (rs := res63) (α := Bool) (lib63_0 K) (d := 3) Try.func63 rfl (by kernel_rfl) (by kernel_rfl) (by kernel_rfl) (fun x => implf63 K x.1 x.2.1 x.2.2.1) (fun p => p.1) (fun y => (y, (()))) (fun _ => rfl) (fun x => q63 K x.1 x.2.1 x.2.2.1)

/-! diaphone/diaphoneref05.rows -/
abbrev ins64a : Fs := [(.dat (.sl (.int .i64)), false), (.dat (.int .i64), false), (.dat (.int .i64), false)]
abbrev res64a : Sh := .own (.sl (.int .i64))
noncomputable def implf64a (K : Nat) (x1 : List Int) (x2 : Int) (x3 : Int) : Option (List (List Int)) := rowsF x1 x2 x3
noncomputable def e64a (K : Nat) : Ent := ⟨ins64a, res64a, List (List Int), fun x => implf64a K x.1 x.2.1 x.2.2.1, fun _ => (fun y => (y, ())), false⟩
theorem e64a_ok (K : Nat) : EntOk Try.prog 64 (e64a K) := rows_ent64

abbrev ins64b : Fs := [(.own (.int .i64), false), (.dat (.int .i64), false), (.dat (.int .i64), false)]
abbrev res64b : Sh := .own (.sl (.int .i64))
noncomputable def e64b (K : Nat) : Ent := ⟨ins64b, res64b, List (List Int), fun x => implf64a K x.1 x.2.1 x.2.2.1, fun _ => (fun y => (y, ())), false⟩
theorem e64b_ok (K : Nat) : EntOk Try.prog 64 (e64b K) := rows_ent64o

/-! diaphone/diaphoneref05.sorted -/
abbrev ins82 : Fs := [(.dat (.sl (.int .i64)), false)]
abbrev res82 : Sh := .own (.int .i64)
theorem lp82 : loopsIn (codeOf Try.f82) 0 = [(0, loopOf 0 (codeOf Try.f82)), (2, loopOf 2 (codeOf Try.f82))] := by kernel_rfl
noncomputable def L82_0 (K : Nat) : Lib := mkLib ti [] [] 82 []
theorem lib82_0 (K : Nat) : LibOk Try.prog (L82_0 K) := libOk_mk (ents := []) (bodies := []) (loops := []) order tiOk trivial trivial Try.func82 rfl lp82 ⟨no_lent, no_lent, trivial⟩
abbrev i82_0 : Fs := [(.own (.int Go.IntKind.i64), true), (.dat (.int Go.IntKind.i64), true)]
abbrev i82_2 : Fs := [(.own (.int Go.IntKind.i64), true), (.dat (.int Go.IntKind.i64), false), (.dat (.int Go.IntKind.i64), true)]
noncomputable def implb82_2 (K : Nat) (rc : (List Int) → Int → Int → Option ((List Int) × Int × Unit)) (x1 : (List Int)) (x2 : Int) (x3 : Int) : Option ((List Int) × Int × Unit) :=
  (bif decide (x3 > (0 : Int)) then (if (0 : Int) ≤ IntKind.i64.wrap (x3 - (1 : Int)) ∧ IntKind.i64.wrap (x3 - (1 : Int)) < (↑x1.length : Int) then (if (0 : Int) ≤ x3 ∧ x3 < (↑x1.length : Int) then (bif decide (x1.getD (IntKind.i64.wrap (x3 - (1 : Int))).toNat ((0 : Int)) > x1.getD x3.toNat ((0 : Int))) then (if (0 : Int) ≤ x3 ∧ x3 < (↑x1.length : Int) then (if (0 : Int) ≤ IntKind.i64.wrap (x3 - (1 : Int)) ∧ IntKind.i64.wrap (x3 - (1 : Int)) < (↑x1.length : Int) then (if (0 : Int) ≤ x3 ∧ x3 < (↑x1.length : Int) then (if (0 : Int) ≤ IntKind.i64.wrap (x3 - (1 : Int)) ∧ IntKind.i64.wrap (x3 - (1 : Int)) < (↑(x1.set x3.toNat (x1.getD (IntKind.i64.wrap (x3 - (1 : Int))).toNat ((0 : Int)))).length : Int) then (rc ((x1.set x3.toNat (x1.getD (IntKind.i64.wrap (x3 - (1 : Int))).toNat ((0 : Int)))).set (IntKind.i64.wrap (x3 - (1 : Int))).toNat (x1.getD x3.toNat ((0 : Int)))) x2 (IntKind.i64.wrap (x3 - (1 : Int)))) else none) else none) else none) else none) else some ((x1, x3, ()))) else none) else none) else some ((x1, x3, ())))
noncomputable def impll82_2 (K : Nat) : Nat → (List Int) → Int → Int → Option ((List Int) × Int × Unit)
  | 0, _, _, _ => none
  | k + 1, x1, x2, x3 => implb82_2 K (impll82_2 K k) x1 x2 x3
noncomputable def n82_2 (K : Nat) : Lent := ⟨[3, 4, 5], i82_2, [17, 18, 19, 20, 21, 22, 23, 24, 25, 26, 27, 28, 29, 30, 33, 34, 35, 36, 6, 37, 38, 39, 40, 41, 42, 43, 44, 45, 46, 47, 48, 49, 31, 32], [2], false, res82, fun x => impll82_2 K K x.1 x.2.1 x.2.2.1, [], none⟩
theorem q82_2 (K : Nat) (rc : (List Int) → Int → Int → Option ((List Int) × Int × Unit)) (x1 : (List Int)) (x2 : Int) (x3 : Int) : evLoop (L82_0 K) 3 82 Try.f82.results.toList (loopOf 2 (codeOf Try.f82)) 2 [3, 4, 5] [] i82_2 [2] false res82 (fun x => rc x.1 x.2.1 x.2.2.1) (x1, x2, x3, ()) = implb82_2 K rc x1 x2 x3 := by kernel_rfl
theorem lp82_2 : loopsIn (loopOf 2 (codeOf Try.f82)) 2 = [] := by kernel_rfl
theorem n82_2_ok (K : Nat) : LentOk Try.prog Try.f82 (loopOf 2 (codeOf Try.f82)) (n82_2 K) := lentOk_k (slots := [3, 4, 5]) (ali := []) (ins := i82_2) (writes := [17, 18, 19, 20, 21, 22, 23, 24, 25, 26, 27, 28, 29, 30, 33, 34, 35, 36, 6, 37, 38, 39, 40, 41, 42, 43, 44, 45, 46, 47, 48, 49, 31, 32]) (exits := [2]) (rets := false) (rs := res82) (d := 3) (lib82_0 K) lp82_2 trivial (by kernel_rfl) (by kernel_rfl) (by kernel_rfl) (by kernel_rfl) (by kernel_rfl) (fun k x => impll82_2 K k x.1 x.2.1 x.2.2.1) (fun _ => rfl) (fun k x => q82_2 K (impll82_2 K k) x.1 x.2.1 x.2.2.1) K
noncomputable def L82_1 (K : Nat) : Lib := mkLib ti [] [] 82 [(2, [n82_2 K])]
theorem lib82_1 (K : Nat) : LibOk Try.prog (L82_1 K) := libOk_mk (ents := []) (bodies := []) (loops := [(2, [n82_2 K])]) order tiOk trivial trivial Try.func82 rfl lp82 ⟨no_lent, one_lent (n82_2_ok K), trivial⟩
noncomputable def implb82_0 (K : Nat) (rc : (List Int) → Int → Option ((List Int) × Int × Unit)) (x1 : (List Int)) (x2 : Int) : Option ((List Int) × Int × Unit) :=
  (bif decide (x2 < (↑x1.length : Int)) then (ob (impll82_2 K K x1 x2 x2) fun y1 => (rc y1.1 (IntKind.i64.wrap (x2 + (1 : Int))))) else some ((x1, x2, ())))
noncomputable def impll82_0 (K : Nat) : Nat → (List Int) → Int → Option ((List Int) × Int × Unit)
  | 0, _, _ => none
  | k + 1, x1, x2 => implb82_0 K (impll82_0 K k) x1 x2
noncomputable def n82_0 (K : Nat) : Lent := ⟨[3, 4], i82_0, [10, 11, 12, 13, 16, 5, 17, 18, 19, 20, 21, 22, 23, 24, 25, 26, 27, 28, 29, 30, 33, 34, 35, 36, 6, 37, 38, 39, 40, 41, 42, 43, 44, 45, 46, 47, 48, 49, 31, 32, 14, 15], [0], false, res82, fun x => impll82_0 K K x.1 x.2.1, [], none⟩
theorem q82_0 (K : Nat) (rc : (List Int) → Int → Option ((List Int) × Int × Unit)) (x1 : (List Int)) (x2 : Int) : evLoop (L82_1 K) 3 82 Try.f82.results.toList (loopOf 0 (codeOf Try.f82)) 0 [3, 4] [] i82_0 [0] false res82 (fun x => rc x.1 x.2.1) (x1, x2, ()) = implb82_0 K rc x1 x2 := by kernel_rfl
theorem lp82_0 : loopsIn (loopOf 0 (codeOf Try.f82)) 0 = [(2, loopOf 2 (codeOf Try.f82))] := by kernel_rfl
theorem n82_0_ok (K : Nat) : LentOk Try.prog Try.f82 (loopOf 0 (codeOf Try.f82)) (n82_0 K) := lentOk_k (slots := [3, 4]) (ali := []) (ins := i82_0) (writes := [10, 11, 12, 13, 16, 5, 17, 18, 19, 20, 21, 22, 23, 24, 25, 26, 27, 28, 29, 30, 33, 34, 35, 36, 6, 37, 38, 39, 40, 41, 42, 43, 44, 45, 46, 47, 48, 49, 31, 32, 14, 15]) (exits := [0]) (rets := false) (rs := res82) (d := 3) (lib82_1 K) lp82_0 ⟨one_lent (n82_2_ok K), trivial⟩ (by kernel_rfl) (by kernel_rfl) (by kernel_rfl) (by kernel_rfl) (by kernel_rfl) (fun k x => impll82_0 K k x.1 x.2.1) (fun _ => rfl) (fun k x => q82_0 K (impll82_0 K k) x.1 x.2.1) K
noncomputable def L82_2 (K : Nat) : Lib := mkLib ti [] [] 82 [(2, [n82_2 K]), (0, [n82_0 K])]
theorem lib82_2 (K : Nat) : LibOk Try.prog (L82_2 K) := libOk_mk (ents := []) (bodies := []) (loops := [(2, [n82_2 K]), (0, [n82_0 K])]) order tiOk trivial trivial Try.func82 rfl lp82 ⟨one_lent (n82_0_ok K), one_lent (n82_2_ok K), trivial⟩
noncomputable def implf82 (K : Nat) (x1 : (List Int)) : Option ((List Int)) :=
  (if ((List.replicate 0 ((0 : Int))).length + x1.length) * 8 ≤ 140737488355328 then (ob (impll82_0 K K (List.replicate 0 ((0 : Int)) ++ x1) ((0 : Int))) fun y1 => some (y1.1)) else none)
theorem q82 (K : Nat) (x1 : (List Int)) : evFnK (α := (List Int)) (L82_2 K) 3 82 Try.f82.results.toList (codeOf Try.f82) ins82 res82 (fun p => p.1) (x1, ()) = implf82 K x1 := by kernel_rfl
noncomputable def e82 (K : Nat) : Ent := ⟨ins82, res82, (List Int), fun x => implf82 K x.1, fun _ => (fun y => (y, (()))), false⟩
theorem e82_ok (K : Nat) : EntOk Try.prog 82 (e82 K) := entOk_k (ins := ins82) (rs := res82) (α := (List Int)) (lib82_2 K) (d := 3) Try.func82 rfl (by kernel_rfl) (by kernel_rfl) (by kernel_rfl) (fun x => implf82 K x.1) (fun p => p.1) (fun y => (y, (()))) (fun _ => rfl) (fun x => q82 K x.1)

/-! diaphone/diaphoneref05.delays -/
abbrev ins71 : Fs := [(.dat (.sl (.int .i64)), false)]
abbrev res71 : Sh := .own (.int .i64)
theorem lp71 : loopsIn (codeOf Try.f71) 0 = [(0, loopOf 0 (codeOf Try.f71)), (2, loopOf 2 (codeOf Try.f71))] := by kernel_rfl
noncomputable def L71_0 (K : Nat) : Lib := mkLib ti [(82, [e82 K])] [] 71 []
theorem lib71_0 (K : Nat) : LibOk Try.prog (L71_0 K) := libOk_mk (ents := [(82, [e82 K])]) (bodies := []) (loops := []) order tiOk ⟨one_ent (e82_ok K), trivial⟩ trivial Try.func71 rfl lp71 ⟨no_lent, no_lent, trivial⟩
abbrev i71_0 : Fs := [(.dat (.sl (.int Go.IntKind.i64)), false), (.own (.int .i64), true), (.dat (.int Go.IntKind.i64), true)]
abbrev i71_2 : Fs := [(.dat (.sl (.int Go.IntKind.i64)), false), (.own (.int Go.IntKind.i64), true), (.dat (.int Go.IntKind.i64), false), (.dat (.int Go.IntKind.i64), true)]
noncomputable def implb71_2 (K : Nat) (rc : (List Int) → (List Int) → Int → Int → Option ((List Int) × Int × Unit)) (x1 : (List Int)) (x2 : (List Int)) (x3 : Int) (x4 : Int) : Option ((List Int) × Int × Unit) :=
  (bif decide (x4 < x3) then (if (0 : Int) ≤ x3 ∧ x3 < (↑x1.length : Int) then (if (0 : Int) ≤ x4 ∧ x4 < (↑x1.length : Int) then (if (x2.length + ((List.replicate 1 ((0 : Int))).set 0 (IntKind.i64.wrap (x1.getD x3.toNat ((0 : Int)) - x1.getD x4.toNat ((0 : Int))))).length) * 8 ≤ 140737488355328 then (rc x1 (x2 ++ (List.replicate 1 ((0 : Int))).set 0 (IntKind.i64.wrap (x1.getD x3.toNat ((0 : Int)) - x1.getD x4.toNat ((0 : Int))))) x3 (IntKind.i64.wrap (x4 + (1 : Int)))) else none) else none) else none) else some ((x2, x4, ())))
noncomputable def impll71_2 (K : Nat) : Nat → (List Int) → (List Int) → Int → Int → Option ((List Int) × Int × Unit)
  | 0, _, _, _, _ => none
  | k + 1, x1, x2, x3, x4 => implb71_2 K (impll71_2 K k) x1 x2 x3 x4
noncomputable def n71_2 (K : Nat) : Lent := ⟨[0, 3, 4, 5], i71_2, [12, 13, 14, 17, 18, 19, 20, 21, 22, 23, 24, 25, 26, 27, 28, 15, 16], [2], false, res71, fun x => impll71_2 K K x.1 x.2.1 x.2.2.1 x.2.2.2.1, [], none⟩
theorem q71_2 (K : Nat) (rc : (List Int) → (List Int) → Int → Int → Option ((List Int) × Int × Unit)) (x1 : (List Int)) (x2 : (List Int)) (x3 : Int) (x4 : Int) : evLoop (L71_0 K) 3 71 Try.f71.results.toList (loopOf 2 (codeOf Try.f71)) 2 [0, 3, 4, 5] [] i71_2 [2] false res71 (fun x => rc x.1 x.2.1 x.2.2.1 x.2.2.2.1) (x1, x2, x3, x4, ()) = implb71_2 K rc x1 x2 x3 x4 := by kernel_rfl
theorem lp71_2 : loopsIn (loopOf 2 (codeOf Try.f71)) 2 = [] := by kernel_rfl
theorem n71_2_ok (K : Nat) : LentOk Try.prog Try.f71 (loopOf 2 (codeOf Try.f71)) (n71_2 K) := lentOk_k (slots := [0, 3, 4, 5]) (ali := []) (ins := i71_2) (writes := [12, 13, 14, 17, 18, 19, 20, 21, 22, 23, 24, 25, 26, 27, 28, 15, 16]) (exits := [2]) (rets := false) (rs := res71) (d := 3) (lib71_0 K) lp71_2 trivial (by kernel_rfl) (by kernel_rfl) (by kernel_rfl) (by kernel_rfl) (by kernel_rfl) (fun k x => impll71_2 K k x.1 x.2.1 x.2.2.1 x.2.2.2.1) (fun _ => rfl) (fun k x => q71_2 K (impll71_2 K k) x.1 x.2.1 x.2.2.1 x.2.2.2.1) K
noncomputable def L71_1 (K : Nat) : Lib := mkLib ti [(82, [e82 K])] [] 71 [(2, [n71_2 K])]
theorem lib71_1 (K : Nat) : LibOk Try.prog (L71_1 K) := libOk_mk (ents := [(82, [e82 K])]) (bodies := []) (loops := [(2, [n71_2 K])]) order tiOk ⟨one_ent (e82_ok K), trivial⟩ trivial Try.func71 rfl lp71 ⟨no_lent, one_lent (n71_2_ok K), trivial⟩
noncomputable def implb71_0 (K : Nat) (rc : (List Int) → (List Int) → Int → Option ((List Int) × Int × Unit)) (x1 : (List Int)) (x2 : (List Int)) (x3 : Int) : Option ((List Int) × Int × Unit) :=
  (bif decide (x3 < (↑x1.length : Int)) then (ob (impll71_2 K K x1 x2 x3 ((0 : Int))) fun y1 => (rc x1 y1.1 (IntKind.i64.wrap (x3 + (1 : Int))))) else some ((x2, x3, ())))
noncomputable def impll71_0 (K : Nat) : Nat → (List Int) → (List Int) → Int → Option ((List Int) × Int × Unit)
  | 0, _, _, _ => none
  | k + 1, x1, x2, x3 => implb71_0 K (impll71_0 K k) x1 x2 x3
noncomputable def n71_0 (K : Nat) : Lent := ⟨[0, 3, 4], i71_0, [6, 7, 8, 9, 5, 12, 13, 14, 17, 18, 19, 20, 21, 22, 23, 24, 25, 26, 27, 28, 15, 16, 10, 11], [0], false, res71, fun x => impll71_0 K K x.1 x.2.1 x.2.2.1, [], none⟩
theorem q71_0 (K : Nat) (rc : (List Int) → (List Int) → Int → Option ((List Int) × Int × Unit)) (x1 : (List Int)) (x2 : (List Int)) (x3 : Int) : evLoop (L71_1 K) 3 71 Try.f71.results.toList (loopOf 0 (codeOf Try.f71)) 0 [0, 3, 4] [] i71_0 [0] false res71 (fun x => rc x.1 x.2.1 x.2.2.1) (x1, x2, x3, ()) = implb71_0 K rc x1 x2 x3 := by kernel_rfl
theorem lp71_0 : loopsIn (loopOf 0 (codeOf Try.f71)) 0 = [(2, loopOf 2 (codeOf Try.f71))] := by kernel_rfl
theorem n71_0_ok (K : Nat) : LentOk Try.prog Try.f71 (loopOf 0 (codeOf Try.f71)) (n71_0 K) := lentOk_k (slots := [0, 3, 4]) (ali := []) (ins := i71_0) (writes := [6, 7, 8, 9, 5, 12, 13, 14, 17, 18, 19, 20, 21, 22, 23, 24, 25, 26, 27, 28, 15, 16, 10, 11]) (exits := [0]) (rets := false) (rs := res71) (d := 3) (lib71_1 K) lp71_0 ⟨one_lent (n71_2_ok K), trivial⟩ (by kernel_rfl) (by kernel_rfl) (by kernel_rfl) (by kernel_rfl) (by kernel_rfl) (fun k x => impll71_0 K k x.1 x.2.1 x.2.2.1) (fun _ => rfl) (fun k x => q71_0 K (impll71_0 K k) x.1 x.2.1 x.2.2.1) K
noncomputable def L71_2 (K : Nat) : Lib := mkLib ti [(82, [e82 K])] [] 71 [(2, [n71_2 K]), (0, [n71_0 K])]
theorem lib71_2 (K : Nat) : LibOk Try.prog (L71_2 K) := libOk_mk (ents := [(82, [e82 K])]) (bodies := []) (loops := [(2, [n71_2 K]), (0, [n71_0 K])]) order tiOk ⟨one_ent (e82_ok K), trivial⟩ trivial Try.func71 rfl lp71 ⟨one_lent (n71_0_ok K), one_lent (n71_2_ok K), trivial⟩
noncomputable def implf71 (K : Nat) (x1 : (List Int)) : Option ((List Int)) :=
  (ob (impll71_0 K K x1 [] ((0 : Int))) fun y1 => (ob (implf82 K y1.1) fun y2 => some (y2)))
theorem q71 (K : Nat) (x1 : (List Int)) : evFnK (α := (List Int)) (L71_2 K) 3 71 Try.f71.results.toList (codeOf Try.f71) ins71 res71 (fun p => p.1) (x1, ()) = implf71 K x1 := by kernel_rfl
noncomputable def e71 (K : Nat) : Ent := ⟨ins71, res71, (List Int), fun x => implf71 K x.1, fun _ => (fun y => (y, (()))), false⟩
theorem e71_ok (K : Nat) : EntOk Try.prog 71 (e71 K) := entOk_k (ins := ins71) (rs := res71) (α := (List Int)) (lib71_2 K) (d := 3) Try.func71 rfl (by kernel_rfl) (by kernel_rfl) (by kernel_rfl) (fun x => implf71 K x.1) (fun p => p.1) (fun y => (y, (()))) (fun _ => rfl) (fun x => q71 K x.1)

/-! diaphone/diaphoneref05.ruler -/
abbrev ins65 : Fs := [(.dat (.sl (.int .i64)), false)]
abbrev res65 : Sh := .dat (.bool)
theorem lp65 : loopsIn (codeOf Try.f65) 0 = [(0, loopOf 0 (codeOf Try.f65))] := by kernel_rfl
noncomputable def L65_0 (K : Nat) : Lib := mkLib ti [(71, [e71 K])] [] 65 []
theorem lib65_0 (K : Nat) : LibOk Try.prog (L65_0 K) := libOk_mk (ents := [(71, [e71 K])]) (bodies := []) (loops := []) order tiOk ⟨one_ent (e71_ok K), trivial⟩ trivial Try.func65 rfl lp65 ⟨no_lent, trivial⟩
abbrev i65_0 : Fs := [(.own (.int Go.IntKind.i64), false), (.dat (.int Go.IntKind.i64), true)]
noncomputable def implb65_0 (K : Nat) (rc : (List Int) → Int → Option (Sum (Int × Unit) Bool)) (x1 : (List Int)) (x2 : Int) : Option (Sum (Int × Unit) Bool) :=
  (bif decide (x2 < (↑x1.length : Int)) then (if (0 : Int) ≤ x2 ∧ x2 < (↑x1.length : Int) then (if (0 : Int) ≤ IntKind.i64.wrap (x2 - (1 : Int)) ∧ IntKind.i64.wrap (x2 - (1 : Int)) < (↑x1.length : Int) then (bif x1.getD x2.toNat ((0 : Int)) == x1.getD (IntKind.i64.wrap (x2 - (1 : Int))).toNat ((0 : Int)) then some (Sum.inr false) else (rc x1 (IntKind.i64.wrap (x2 + (1 : Int))))) else none) else none) else some (Sum.inl (x2, ())))
noncomputable def impll65_0 (K : Nat) : Nat → (List Int) → Int → Option (Sum (Int × Unit) Bool)
  | 0, _, _ => none
  | k + 1, x1, x2 => implb65_0 K (impll65_0 K k) x1 x2
noncomputable def n65_0 (K : Nat) : Lent := ⟨[3, 4], i65_0, [7, 8, 9, 10, 13, 14, 15, 16, 17, 18, 19, 20, 21, 22, 2, 11, 12], [0], true, res65, fun x => impll65_0 K K x.1 x.2.1, [], none⟩
theorem q65_0 (K : Nat) (rc : (List Int) → Int → Option (Sum (Int × Unit) Bool)) (x1 : (List Int)) (x2 : Int) : evLoop (L65_0 K) 3 65 Try.f65.results.toList (loopOf 0 (codeOf Try.f65)) 0 [3, 4] [] i65_0 [0] true res65 (fun x => rc x.1 x.2.1) (x1, x2, ()) = implb65_0 K rc x1 x2 := by kernel_rfl
theorem lp65_0 : loopsIn (loopOf 0 (codeOf Try.f65)) 0 = [] := by kernel_rfl
theorem n65_0_ok (K : Nat) : LentOk Try.prog Try.f65 (loopOf 0 (codeOf Try.f65)) (n65_0 K) := lentOk_k (slots := [3, 4]) (ali := []) (ins := i65_0) (writes := [7, 8, 9, 10, 13, 14, 15, 16, 17, 18, 19, 20, 21, 22, 2, 11, 12]) (exits := [0]) (rets := true) (rs := res65) (d := 3) (lib65_0 K) lp65_0 trivial (by kernel_rfl) (by kernel_rfl) (by kernel_rfl) (by kernel_rfl) (by kernel_rfl) (fun k x => impll65_0 K k x.1 x.2.1) (fun _ => rfl) (fun k x => q65_0 K (impll65_0 K k) x.1 x.2.1) K
noncomputable def L65_1 (K : Nat) : Lib := mkLib ti [(71, [e71 K])] [] 65 [(0, [n65_0 K])]
theorem lib65_1 (K : Nat) : LibOk Try.prog (L65_1 K) := libOk_mk (ents := [(71, [e71 K])]) (bodies := []) (loops := [(0, [n65_0 K])]) order tiOk ⟨one_ent (e71_ok K), trivial⟩ trivial Try.func65 rfl lp65 ⟨one_lent (n65_0_ok K), trivial⟩
noncomputable def implf65 (K : Nat) (x1 : (List Int)) : Option (Bool) :=
  (ob (implf71 K x1) fun y1 => (ob (impll65_0 K K y1 ((1 : Int))) fun y2 => (match y2 with | .inl y3 => some (true) | .inr y3 => some (y3))))
theorem q65 (K : Nat) (x1 : (List Int)) : evFnK (α := Bool) (L65_1 K) 3 65 Try.f65.results.toList (codeOf Try.f65) ins65 res65 (fun p => p.1) (x1, ()) = implf65 K x1 := by kernel_rfl
noncomputable def e65 (K : Nat) : Ent := ⟨ins65, res65, Bool, fun x => implf65 K x.1, fun _ => (fun y => (y, (()))), false⟩
theorem e65_ok (K : Nat) : EntOk Try.prog 65 (e65 K) := entOk_k (ins := ins65) (rs := res65) (α := Bool) (lib65_1 K) (d := 3) Try.func65 rfl (by kernel_rfl) (by kernel_rfl) (by kernel_rfl) (fun x => implf65 K x.1) (fun p => p.1) (fun y => (y, (()))) (fun _ => rfl) (fun x => q65 K x.1)

/-! diaphone/diaphoneref05.mirror -/
abbrev ins78 : Fs := [(.dat (.sl (.int .i64)), false)]
abbrev res78 : Sh := .own (.int .i64)
theorem lp78 : loopsIn (codeOf Try.f78) 0 = [(0, loopOf 0 (codeOf Try.f78))] := by kernel_rfl
noncomputable def L78_0 (K : Nat) : Lib := mkLib ti [] [] 78 []
theorem lib78_0 (K : Nat) : LibOk Try.prog (L78_0 K) := libOk_mk (ents := []) (bodies := []) (loops := []) order tiOk trivial trivial Try.func78 rfl lp78 ⟨no_lent, trivial⟩
abbrev i78_0 : Fs := [(.dat (.sl (.int Go.IntKind.i64)), false), (.own (.int .i64), true), (.dat (.int Go.IntKind.i64), true)]
noncomputable def implb78_0 (K : Nat) (rc : (List Int) → (List Int) → Int → Option ((List Int) × Int × Unit)) (x1 : (List Int)) (x2 : (List Int)) (x3 : Int) : Option ((List Int) × Int × Unit) :=
  (bif decide (x3 ≥ (0 : Int)) then (if (0 : Int) ≤ (0 : Int) ∧ (0 : Int) < (↑x1.length : Int) then (if (0 : Int) ≤ IntKind.i64.wrap ((↑x1.length : Int) - (1 : Int)) ∧ IntKind.i64.wrap ((↑x1.length : Int) - (1 : Int)) < (↑x1.length : Int) then (if (0 : Int) ≤ x3 ∧ x3 < (↑x1.length : Int) then (if (x2.length + ((List.replicate 1 ((0 : Int))).set 0 (IntKind.i64.wrap (IntKind.i64.wrap (x1.getD (0) ((0 : Int)) + x1.getD (IntKind.i64.wrap ((↑x1.length : Int) - (1 : Int))).toNat ((0 : Int))) - x1.getD x3.toNat ((0 : Int))))).length) * 8 ≤ 140737488355328 then (rc x1 (x2 ++ (List.replicate 1 ((0 : Int))).set 0 (IntKind.i64.wrap (IntKind.i64.wrap (x1.getD (0) ((0 : Int)) + x1.getD (IntKind.i64.wrap ((↑x1.length : Int) - (1 : Int))).toNat ((0 : Int))) - x1.getD x3.toNat ((0 : Int))))) (IntKind.i64.wrap (x3 - (1 : Int)))) else none) else none) else none) else none) else some ((x2, x3, ())))
noncomputable def impll78_0 (K : Nat) : Nat → (List Int) → (List Int) → Int → Option ((List Int) × Int × Unit)
  | 0, _, _, _ => none
  | k + 1, x1, x2, x3 => implb78_0 K (impll78_0 K k) x1 x2 x3
noncomputable def n78_0 (K : Nat) : Lent := ⟨[0, 3, 4], i78_0, [8, 9, 12, 13, 14, 15, 16, 17, 18, 19, 20, 21, 22, 23, 24, 25, 26, 27, 28, 29, 10, 11], [0], false, res78, fun x => impll78_0 K K x.1 x.2.1 x.2.2.1, [], none⟩
theorem q78_0 (K : Nat) (rc : (List Int) → (List Int) → Int → Option ((List Int) × Int × Unit)) (x1 : (List Int)) (x2 : (List Int)) (x3 : Int) : evLoop (L78_0 K) 3 78 Try.f78.results.toList (loopOf 0 (codeOf Try.f78)) 0 [0, 3, 4] [] i78_0 [0] false res78 (fun x => rc x.1 x.2.1 x.2.2.1) (x1, x2, x3, ()) = implb78_0 K rc x1 x2 x3 := by kernel_rfl
theorem lp78_0 : loopsIn (loopOf 0 (codeOf Try.f78)) 0 = [] := by kernel_rfl
theorem n78_0_ok (K : Nat) : LentOk Try.prog Try.f78 (loopOf 0 (codeOf Try.f78)) (n78_0 K) := lentOk_k (slots := [0, 3, 4]) (ali := []) (ins := i78_0) (writes := [8, 9, 12, 13, 14, 15, 16, 17, 18, 19, 20, 21, 22, 23, 24, 25, 26, 27, 28, 29, 10, 11]) (exits := [0]) (rets := false) (rs := res78) (d := 3) (lib78_0 K) lp78_0 trivial (by kernel_rfl) (by kernel_rfl) (by kernel_rfl) (by kernel_rfl) (by kernel_rfl) (fun k x => impll78_0 K k x.1 x.2.1 x.2.2.1) (fun _ => rfl) (fun k x => q78_0 K (impll78_0 K k) x.1 x.2.1 x.2.2.1) K
noncomputable def L78_1 (K : Nat) : Lib := mkLib ti [] [] 78 [(0, [n78_0 K])]
theorem lib78_1 (K : Nat) : LibOk Try.prog (L78_1 K) := libOk_mk (ents := []) (bodies := []) (loops := [(0, [n78_0 K])]) order tiOk trivial trivial Try.func78 rfl lp78 ⟨one_lent (n78_0_ok K), trivial⟩
noncomputable def implf78 (K : Nat) (x1 : (List Int)) : Option ((List Int)) :=
  (ob (impll78_0 K K x1 [] (IntKind.i64.wrap ((↑x1.length : Int) - (1 : Int)))) fun y1 => some (y1.1))
theorem q78 (K : Nat) (x1 : (List Int)) : evFnK (α := (List Int)) (L78_1 K) 3 78 Try.f78.results.toList (codeOf Try.f78) ins78 res78 (fun p => p.1) (x1, ()) = implf78 K x1 := by kernel_rfl
noncomputable def e78 (K : Nat) : Ent := ⟨ins78, res78, (List Int), fun x => implf78 K x.1, fun _ => (fun y => (y, (()))), false⟩
theorem e78_ok (K : Nat) : EntOk Try.prog 78 (e78 K) := entOk_k (ins := ins78) (rs := res78) (α := (List Int)) (lib78_1 K) (d := 3) Try.func78 rfl (by kernel_rfl) (by kernel_rfl) (by kernel_rfl) (fun x => implf78 K x.1) (fun p => p.1) (fun y => (y, (()))) (fun _ => rfl) (fun x => q78 K x.1)

/-! diaphone/diaphoneref05.before -/
abbrev ins90 : Fs := [(.dat (.sl (.int .i64)), false), (.dat (.sl (.int .i64)), false)]
abbrev res90 : Sh := .dat (.bool)
theorem lp90 : loopsIn (codeOf Try.f90) 0 = [(0, loopOf 0 (codeOf Try.f90))] := by kernel_rfl
noncomputable def L90_0 (K : Nat) : Lib := mkLib ti [] [] 90 []
theorem lib90_0 (K : Nat) : LibOk Try.prog (L90_0 K) := libOk_mk (ents := []) (bodies := []) (loops := []) order tiOk trivial trivial Try.func90 rfl lp90 ⟨no_lent, trivial⟩
abbrev i90_0 : Fs := [(.dat (.sl (.int Go.IntKind.i64)), false), (.dat (.sl (.int Go.IntKind.i64)), false), (.dat (.int Go.IntKind.i64), true)]
noncomputable def implb90_0 (K : Nat) (rc : (List Int) → (List Int) → Int → Option (Sum (Int × Unit) Bool)) (x1 : (List Int)) (x2 : (List Int)) (x3 : Int) : Option (Sum (Int × Unit) Bool) :=
  (bif decide (x3 < (↑x1.length : Int)) then (if (0 : Int) ≤ x3 ∧ x3 < (↑x1.length : Int) then (if (0 : Int) ≤ x3 ∧ x3 < (↑x2.length : Int) then (bif x1.getD x3.toNat ((0 : Int)) != x2.getD x3.toNat ((0 : Int)) then (if (0 : Int) ≤ x3 ∧ x3 < (↑x1.length : Int) then (if (0 : Int) ≤ x3 ∧ x3 < (↑x2.length : Int) then some (Sum.inr (decide (x1.getD x3.toNat ((0 : Int)) < x2.getD x3.toNat ((0 : Int))))) else none) else none) else (rc x1 x2 (IntKind.i64.wrap (x3 + (1 : Int))))) else none) else none) else some (Sum.inl (x3, ())))
noncomputable def impll90_0 (K : Nat) : Nat → (List Int) → (List Int) → Int → Option (Sum (Int × Unit) Bool)
  | 0, _, _, _ => none
  | k + 1, x1, x2, x3 => implb90_0 K (impll90_0 K k) x1 x2 x3
noncomputable def n90_0 (K : Nat) : Lent := ⟨[0, 1, 5], i90_0, [6, 7, 8, 9, 12, 13, 14, 15, 16, 17, 18, 19, 20, 21, 22, 23, 24, 25, 26, 27, 28, 29, 4, 10, 11], [0], true, res90, fun x => impll90_0 K K x.1 x.2.1 x.2.2.1, [], none⟩
theorem q90_0 (K : Nat) (rc : (List Int) → (List Int) → Int → Option (Sum (Int × Unit) Bool)) (x1 : (List Int)) (x2 : (List Int)) (x3 : Int) : evLoop (L90_0 K) 3 90 Try.f90.results.toList (loopOf 0 (codeOf Try.f90)) 0 [0, 1, 5] [] i90_0 [0] true res90 (fun x => rc x.1 x.2.1 x.2.2.1) (x1, x2, x3, ()) = implb90_0 K rc x1 x2 x3 := by kernel_rfl
theorem lp90_0 : loopsIn (loopOf 0 (codeOf Try.f90)) 0 = [] := by kernel_rfl
theorem n90_0_ok (K : Nat) : LentOk Try.prog Try.f90 (loopOf 0 (codeOf Try.f90)) (n90_0 K) := lentOk_k (slots := [0, 1, 5]) (ali := []) (ins := i90_0) (writes := [6, 7, 8, 9, 12, 13, 14, 15, 16, 17, 18, 19, 20, 21, 22, 23, 24, 25, 26, 27, 28, 29, 4, 10, 11]) (exits := [0]) (rets := true) (rs := res90) (d := 3) (lib90_0 K) lp90_0 trivial (by kernel_rfl) (by kernel_rfl) (by kernel_rfl) (by kernel_rfl) (by kernel_rfl) (fun k x => impll90_0 K k x.1 x.2.1 x.2.2.1) (fun _ => rfl) (fun k x => q90_0 K (impll90_0 K k) x.1 x.2.1 x.2.2.1) K
noncomputable def L90_1 (K : Nat) : Lib := mkLib ti [] [] 90 [(0, [n90_0 K])]
theorem lib90_1 (K : Nat) : LibOk Try.prog (L90_1 K) := libOk_mk (ents := []) (bodies := []) (loops := [(0, [n90_0 K])]) order tiOk trivial trivial Try.func90 rfl lp90 ⟨one_lent (n90_0_ok K), trivial⟩
noncomputable def implf90 (K : Nat) (x1 : (List Int)) (x2 : (List Int)) : Option (Bool) :=
  (ob (impll90_0 K K x1 x2 ((0 : Int))) fun y1 => (match y1 with | .inl y2 => some (true) | .inr y2 => some (y2)))
theorem q90 (K : Nat) (x1 : (List Int)) (x2 : (List Int)) : evFnK (α := Bool) (L90_1 K) 3 90 Try.f90.results.toList (codeOf Try.f90) ins90 res90 (fun p => p.1) (x1, x2, ()) = implf90 K x1 x2 := by kernel_rfl
noncomputable def e90 (K : Nat) : Ent := ⟨ins90, res90, Bool, fun x => implf90 K x.1 x.2.1, fun _ => (fun y => (y, (()))), false⟩
theorem e90_ok (K : Nat) : EntOk Try.prog 90 (e90 K) := entOk_k (ins := ins90) (rs := res90) (α := Bool) (lib90_1 K) (d := 3) Try.func90 rfl (by kernel_rfl) (by kernel_rfl) (by kernel_rfl) (fun x => implf90 K x.1 x.2.1) (fun p => p.1) (fun y => (y, (()))) (fun _ => rfl) (fun x => q90 K x.1 x.2.1)

/-! diaphone/diaphoneref05.normal -/
abbrev ins66 : Fs := [(.dat (.sl (.int .i64)), false)]
abbrev res66 : Sh := .own (.int .i64)
theorem lp66 : loopsIn (codeOf Try.f66) 0 = [(0, loopOf 0 (codeOf Try.f66))] := by kernel_rfl
noncomputable def L66_0 (K : Nat) : Lib := mkLib ti [(78, [e78 K]), (90, [e90 K])] [] 66 []
theorem lib66_0 (K : Nat) : LibOk Try.prog (L66_0 K) := libOk_mk (ents := [(78, [e78 K]), (90, [e90 K])]) (bodies := []) (loops := []) order tiOk ⟨one_ent (e78_ok K), one_ent (e90_ok K), trivial⟩ trivial Try.func66 rfl lp66 ⟨no_lent, trivial⟩
abbrev i66_0 : Fs := [(.dat (.sl (.int Go.IntKind.i64)), false), (.own (.int .i64), true), (.dat (.int Go.IntKind.i64), true)]
noncomputable def implb66_0 (K : Nat) (rc : (List Int) → (List Int) → Int → Option ((List Int) × Int × Unit)) (x1 : (List Int)) (x2 : (List Int)) (x3 : Int) : Option ((List Int) × Int × Unit) :=
  (bif decide (x3 < (↑x1.length : Int)) then (if (0 : Int) ≤ x3 ∧ x3 < (↑x1.length : Int) then (if (0 : Int) ≤ (0 : Int) ∧ (0 : Int) < (↑x1.length : Int) then (if (x2.length + ((List.replicate 1 ((0 : Int))).set 0 (IntKind.i64.wrap (x1.getD x3.toNat ((0 : Int)) - x1.getD (0) ((0 : Int))))).length) * 8 ≤ 140737488355328 then (rc x1 (x2 ++ (List.replicate 1 ((0 : Int))).set 0 (IntKind.i64.wrap (x1.getD x3.toNat ((0 : Int)) - x1.getD (0) ((0 : Int))))) (IntKind.i64.wrap (x3 + (1 : Int)))) else none) else none) else none) else some ((x2, x3, ())))
noncomputable def impll66_0 (K : Nat) : Nat → (List Int) → (List Int) → Int → Option ((List Int) × Int × Unit)
  | 0, _, _, _ => none
  | k + 1, x1, x2, x3 => implb66_0 K (impll66_0 K k) x1 x2 x3
noncomputable def n66_0 (K : Nat) : Lent := ⟨[0, 3, 4], i66_0, [5, 6, 7, 8, 11, 12, 13, 14, 15, 16, 17, 18, 19, 20, 21, 9, 10], [0], false, res66, fun x => impll66_0 K K x.1 x.2.1 x.2.2.1, [], none⟩
theorem q66_0 (K : Nat) (rc : (List Int) → (List Int) → Int → Option ((List Int) × Int × Unit)) (x1 : (List Int)) (x2 : (List Int)) (x3 : Int) : evLoop (L66_0 K) 3 66 Try.f66.results.toList (loopOf 0 (codeOf Try.f66)) 0 [0, 3, 4] [] i66_0 [0] false res66 (fun x => rc x.1 x.2.1 x.2.2.1) (x1, x2, x3, ()) = implb66_0 K rc x1 x2 x3 := by kernel_rfl
theorem lp66_0 : loopsIn (loopOf 0 (codeOf Try.f66)) 0 = [] := by kernel_rfl
theorem n66_0_ok (K : Nat) : LentOk Try.prog Try.f66 (loopOf 0 (codeOf Try.f66)) (n66_0 K) := lentOk_k (slots := [0, 3, 4]) (ali := []) (ins := i66_0) (writes := [5, 6, 7, 8, 11, 12, 13, 14, 15, 16, 17, 18, 19, 20, 21, 9, 10]) (exits := [0]) (rets := false) (rs := res66) (d := 3) (lib66_0 K) lp66_0 trivial (by kernel_rfl) (by kernel_rfl) (by kernel_rfl) (by kernel_rfl) (by kernel_rfl) (fun k x => impll66_0 K k x.1 x.2.1 x.2.2.1) (fun _ => rfl) (fun k x => q66_0 K (impll66_0 K k) x.1 x.2.1 x.2.2.1) K
noncomputable def L66_1 (K : Nat) : Lib := mkLib ti [(78, [e78 K]), (90, [e90 K])] [] 66 [(0, [n66_0 K])]
theorem lib66_1 (K : Nat) : LibOk Try.prog (L66_1 K) := libOk_mk (ents := [(78, [e78 K]), (90, [e90 K])]) (bodies := []) (loops := [(0, [n66_0 K])]) order tiOk ⟨one_ent (e78_ok K), one_ent (e90_ok K), trivial⟩ trivial Try.func66 rfl lp66 ⟨one_lent (n66_0_ok K), trivial⟩
noncomputable def implf66 (K : Nat) (x1 : (List Int)) : Option ((List Int)) :=
  (ob (impll66_0 K K x1 [] ((0 : Int))) fun y1 => (ob (implf78 K y1.1) fun y2 => (ob (implf90 K y1.1 y2) fun y3 => (bif y3 then some (y1.1) else (ob (implf78 K y1.1) fun y4 => some (y4))))))
theorem q66 (K : Nat) (x1 : (List Int)) : evFnK (α := (List Int)) (L66_1 K) 3 66 Try.f66.results.toList (codeOf Try.f66) ins66 res66 (fun p => p.1) (x1, ()) = implf66 K x1 := by kernel_rfl
noncomputable def e66 (K : Nat) : Ent := ⟨ins66, res66, (List Int), fun x => implf66 K x.1, fun _ => (fun y => (y, (()))), false⟩
theorem e66_ok (K : Nat) : EntOk Try.prog 66 (e66 K) := entOk_k (ins := ins66) (rs := res66) (α := (List Int)) (lib66_1 K) (d := 3) Try.func66 rfl (by kernel_rfl) (by kernel_rfl) (by kernel_rfl) (fun x => implf66 K x.1) (fun p => p.1) (fun y => (y, (()))) (fun _ => rfl) (fun x => q66 K x.1)

/-! diaphone/diaphoneref05.Shortest -/
abbrev ins26 : Fs := [(.dat (.int .i64), false)]
abbrev res26 : Sh := .cons (.dat (.sl (.int .i64))) (.cons (.dat (.int .i64)) (.un))
theorem lp26 : loopsIn (codeOf Try.f26) 0 = [(0, loopOf 0 (codeOf Try.f26)), (2, loopOf 2 (codeOf Try.f26))] := by kernel_rfl
noncomputable def L26_0 (K : Nat) : Lib := mkLib ti [(24, [e24 K]), (63, [e63 K]), (64, [e64b K, e64a K]), (65, [e65 K]), (66, [e66 K])] [] 26 []
theorem lib26_0 (K : Nat) : LibOk Try.prog (L26_0 K) := libOk_mk (ents := [(24, [e24 K]), (63, [e63 K]), (64, [e64b K, e64a K]), (65, [e65 K]), (66, [e66 K])]) (bodies := []) (loops := []) order tiOk ⟨one_ent (e24_ok K), one_ent (e63_ok K), more_ent (e64b_ok K) (one_ent (e64a_ok K)), one_ent (e65_ok K), one_ent (e66_ok K), trivial⟩ trivial Try.func26 rfl lp26 ⟨no_lent, no_lent, trivial⟩
abbrev i26_0 : Fs := [(.dat (.int Go.IntKind.i64), false), (.own (.int .i64), true), (.dat (.int Go.IntKind.i64), true)]
abbrev i26_2 : Fs := [(.dat (.int Go.IntKind.i64), false), (.own (.int Go.IntKind.i64), false), (.dat (.int Go.IntKind.i64), false), (.own (.sl (.int Go.IntKind.i64)), false), (.dat (.int Go.IntKind.i64), true)]
noncomputable def implb26_2 (K : Nat) (rc : Int → (List Int) → Int → (List (List Int)) → Int → Option (Sum (Int × Unit) ((List Int) × Int × Unit))) (x1 : Int) (x2 : (List Int)) (x3 : Int) (x4 : (List (List Int))) (x5 : Int) : Option (Sum (Int × Unit) ((List Int) × Int × Unit)) :=
  (bif decide (x5 < (↑x4.length : Int)) then (if (0 : Int) ≤ x5 ∧ x5 < (↑x4.length : Int) then (ob (implf65 K (x4.getD x5.toNat [])) fun y1 => (bif y1 then (if (0 : Int) ≤ x5 ∧ x5 < (↑x4.length : Int) then (ob (implf66 K (x4.getD x5.toNat [])) fun y2 => (if (0 : Int) ≤ x5 ∧ x5 < (↑x4.length : Int) then (ob (implf24 K y2 (x4.getD x5.toNat [])) fun y3 => (bif y3 then (if (0 : Int) ≤ x5 ∧ x5 < (↑x4.length : Int) then some (Sum.inr (x4.getD x5.toNat [], (0 : Int), ())) else none) else (rc x1 x2 x3 x4 (IntKind.i64.wrap (x5 + (1 : Int)))))) else none)) else none) else (rc x1 x2 x3 x4 (IntKind.i64.wrap (x5 + (1 : Int)))))) else none) else some (Sum.inl (x5, ())))
noncomputable def impll26_2 (K : Nat) : Nat → Int → (List Int) → Int → (List (List Int)) → Int → Option (Sum (Int × Unit) ((List Int) × Int × Unit))
  | 0, _, _, _, _, _ => none
  | k + 1, x1, x2, x3, x4, x5 => implb26_2 K (impll26_2 K k) x1 x2 x3 x4 x5
noncomputable def n26_2 (K : Nat) : Lent := ⟨[0, 4, 5, 6, 7], i26_2, [23, 24, 25, 26, 29, 30, 31, 32, 33, 34, 35, 36, 37, 38, 39, 40, 41, 42, 43, 44, 45, 46, 47, 48, 49, 2, 3, 27, 28], [2], true, res26, fun x => impll26_2 K K x.1 x.2.1 x.2.2.1 x.2.2.2.1 x.2.2.2.2.1, [], none⟩
theorem q26_2 (K : Nat) (rc : Int → (List Int) → Int → (List (List Int)) → Int → Option (Sum (Int × Unit) ((List Int) × Int × Unit))) (x1 : Int) (x2 : (List Int)) (x3 : Int) (x4 : (List (List Int))) (x5 : Int) : evLoop (L26_0 K) 3 26 Try.f26.results.toList (loopOf 2 (codeOf Try.f26)) 2 [0, 4, 5, 6, 7] [] i26_2 [2] true res26 (fun x => rc x.1 x.2.1 x.2.2.1 x.2.2.2.1 x.2.2.2.2.1) (x1, x2, x3, x4, x5, ()) = implb26_2 K rc x1 x2 x3 x4 x5 := by kernel_rfl
theorem lp26_2 : loopsIn (loopOf 2 (codeOf Try.f26)) 2 = [] := by kernel_rfl
theorem n26_2_ok (K : Nat) : LentOk Try.prog Try.f26 (loopOf 2 (codeOf Try.f26)) (n26_2 K) := lentOk_k (slots := [0, 4, 5, 6, 7]) (ali := []) (ins := i26_2) (writes := [23, 24, 25, 26, 29, 30, 31, 32, 33, 34, 35, 36, 37, 38, 39, 40, 41, 42, 43, 44, 45, 46, 47, 48, 49, 2, 3, 27, 28]) (exits := [2]) (rets := true) (rs := res26) (d := 3) (lib26_0 K) lp26_2 trivial (by kernel_rfl) (by kernel_rfl) (by kernel_rfl) (by kernel_rfl) (by kernel_rfl) (fun k x => impll26_2 K k x.1 x.2.1 x.2.2.1 x.2.2.2.1 x.2.2.2.2.1) (fun _ => rfl) (fun k x => q26_2 K (impll26_2 K k) x.1 x.2.1 x.2.2.1 x.2.2.2.1 x.2.2.2.2.1) K
noncomputable def L26_1 (K : Nat) : Lib := mkLib ti [(24, [e24 K]), (63, [e63 K]), (64, [e64b K, e64a K]), (65, [e65 K]), (66, [e66 K])] [] 26 [(2, [n26_2 K])]
theorem lib26_1 (K : Nat) : LibOk Try.prog (L26_1 K) := libOk_mk (ents := [(24, [e24 K]), (63, [e63 K]), (64, [e64b K, e64a K]), (65, [e65 K]), (66, [e66 K])]) (bodies := []) (loops := [(2, [n26_2 K])]) order tiOk ⟨one_ent (e24_ok K), one_ent (e63_ok K), more_ent (e64b_ok K) (one_ent (e64a_ok K)), one_ent (e65_ok K), one_ent (e66_ok K), trivial⟩ trivial Try.func26 rfl lp26 ⟨no_lent, one_lent (n26_2_ok K), trivial⟩
noncomputable def implb26_0 (K : Nat) (rc : Int → (List Int) → Int → Option (Sum ((List Int) × Int × Unit) ((List Int) × Int × Unit))) (x1 : Int) (x2 : (List Int)) (x3 : Int) : Option (Sum ((List Int) × Int × Unit) ((List Int) × Int × Unit)) :=
  (bif decide (x3 ≤ (60 : Int)) then (ob (implf64a K x2 (IntKind.i64.wrap (x1 - (2 : Int))) x3) fun y1 => (ob (impll26_2 K K x1 x2 x3 y1 ((0 : Int))) fun y2 => (match y2 with | .inl y3 => (if (x2.length + ((List.replicate 1 ((0 : Int))).set 0 x3).length) * 8 ≤ 140737488355328 then (rc x1 (x2 ++ (List.replicate 1 ((0 : Int))).set 0 x3) (IntKind.i64.wrap (x3 + (1 : Int)))) else none) | .inr y3 => some (Sum.inr (y3.1, y3.2.1, ()))))) else some (Sum.inl (x2, x3, ())))
noncomputable def impll26_0 (K : Nat) : Nat → Int → (List Int) → Int → Option (Sum ((List Int) × Int × Unit) ((List Int) × Int × Unit))
  | 0, _, _, _ => none
  | k + 1, x1, x2, x3 => implb26_0 K (impll26_0 K k) x1 x2 x3
noncomputable def n26_0 (K : Nat) : Lent := ⟨[0, 4, 5], i26_0, [14, 15, 18, 19, 20, 21, 22, 6, 7, 23, 24, 25, 26, 29, 30, 31, 32, 33, 34, 35, 36, 37, 38, 39, 40, 41, 42, 43, 44, 45, 46, 47, 48, 49, 2, 3, 27, 28, 50, 51, 52, 53, 16, 17], [0], true, res26, fun x => impll26_0 K K x.1 x.2.1 x.2.2.1, [], none⟩
theorem q26_0 (K : Nat) (rc : Int → (List Int) → Int → Option (Sum ((List Int) × Int × Unit) ((List Int) × Int × Unit))) (x1 : Int) (x2 : (List Int)) (x3 : Int) : evLoop (L26_1 K) 3 26 Try.f26.results.toList (loopOf 0 (codeOf Try.f26)) 0 [0, 4, 5] [] i26_0 [0] true res26 (fun x => rc x.1 x.2.1 x.2.2.1) (x1, x2, x3, ()) = implb26_0 K rc x1 x2 x3 := by kernel_rfl
theorem lp26_0 : loopsIn (loopOf 0 (codeOf Try.f26)) 0 = [(2, loopOf 2 (codeOf Try.f26))] := by kernel_rfl
theorem n26_0_ok (K : Nat) : LentOk Try.prog Try.f26 (loopOf 0 (codeOf Try.f26)) (n26_0 K) := lentOk_k (slots := [0, 4, 5]) (ali := []) (ins := i26_0) (writes := [14, 15, 18, 19, 20, 21, 22, 6, 7, 23, 24, 25, 26, 29, 30, 31, 32, 33, 34, 35, 36, 37, 38, 39, 40, 41, 42, 43, 44, 45, 46, 47, 48, 49, 2, 3, 27, 28, 50, 51, 52, 53, 16, 17]) (exits := [0]) (rets := true) (rs := res26) (d := 3) (lib26_1 K) lp26_0 ⟨one_lent (n26_2_ok K), trivial⟩ (by kernel_rfl) (by kernel_rfl) (by kernel_rfl) (by kernel_rfl) (by kernel_rfl) (fun k x => impll26_0 K k x.1 x.2.1 x.2.2.1) (fun _ => rfl) (fun k x => q26_0 K (impll26_0 K k) x.1 x.2.1 x.2.2.1) K
noncomputable def L26_2 (K : Nat) : Lib := mkLib ti [(24, [e24 K]), (63, [e63 K]), (64, [e64b K, e64a K]), (65, [e65 K]), (66, [e66 K])] [] 26 [(2, [n26_2 K]), (0, [n26_0 K])]
theorem lib26_2 (K : Nat) : LibOk Try.prog (L26_2 K) := libOk_mk (ents := [(24, [e24 K]), (63, [e63 K]), (64, [e64b K, e64a K]), (65, [e65 K]), (66, [e66 K])]) (bodies := []) (loops := [(2, [n26_2 K]), (0, [n26_0 K])]) order tiOk ⟨one_ent (e24_ok K), one_ent (e63_ok K), more_ent (e64b_ok K) (one_ent (e64a_ok K)), one_ent (e65_ok K), one_ent (e66_ok K), trivial⟩ trivial Try.func26 rfl lp26 ⟨one_lent (n26_0_ok K), one_lent (n26_2_ok K), trivial⟩
noncomputable def implf26 (K : Nat) (x1 : Int) : Option ((List Int) × Int) :=
  (ob (implf63 K x1 ((1 : Int)) ((5 : Int))) fun y1 => (bif !y1 then some (([], (1 : Int))) else (bif x1 == (1 : Int) then some (((List.replicate 1 ((0 : Int))).set 0 ((0 : Int)), (0 : Int))) else (ob (impll26_0 K K x1 [] ((1 : Int))) fun y2 => (match y2 with | .inl y3 => some (([], (0 : Int))) | .inr y3 => some ((y3.1, y3.2.1)))))))
theorem q26 (K : Nat) (x1 : Int) : evFnK (α := (List Int) × Int) (L26_2 K) 3 26 Try.f26.results.toList (codeOf Try.f26) ins26 res26 (fun p => (p.1.1, p.1.2.1)) (x1, ()) = implf26 K x1 := by kernel_rfl
noncomputable def e26 (K : Nat) : Ent := ⟨ins26, res26, (List Int) × Int, fun x => implf26 K x.1, fun _ => (fun y => ((y.1, y.2, ()), (()))), false⟩
theorem e26_ok (K : Nat) : EntOk Try.prog 26 (e26 K) := entOk_k (ins := ins26) (rs := res26) (α := (List Int) × Int) (lib26_2 K) (d := 3) Try.func26 rfl (by kernel_rfl) (by kernel_rfl) (by kernel_rfl) (fun x => implf26 K x.1) (fun p => (p.1.1, p.1.2.1)) (fun y => ((y.1, y.2, ()), (()))) (fun _ => rfl) (fun x => q26 K x.1)

/-! diaphone/echo.IsRuler -/
abbrev ins27 : Fs := [(.dat (.sl (.int .i64)), false)]
abbrev res27 : Sh := .cons (.dat (.bool)) (.cons (.dat (.int .i64)) (.un))
theorem lp27 : loopsIn (codeOf Try.f27) 0 = [] := by kernel_rfl
noncomputable def L27_0 (K : Nat) : Lib := mkLib ti [(32, [e32 K]), (70, [e70 K]), (83, [e83 K]), (89, [e89 K])] [(67, Try.f67)] 27 []
theorem lib27_0 (K : Nat) : LibOk Try.prog (L27_0 K) := libOk_mk (ents := [(32, [e32 K]), (70, [e70 K]), (83, [e83 K]), (89, [e89 K])]) (bodies := [(67, Try.f67)]) (loops := []) order tiOk ⟨one_ent (e32_ok K), one_ent (e70_ok K), one_ent (e83_ok K), one_ent (e89_ok K), trivial⟩ ⟨bod67, trivial⟩ Try.func27 rfl lp27 trivial
noncomputable def implf27 (K : Nat) (x1 : (List Int)) : Option (Bool × Int) :=
  (ob (implf32 K x1) fun y1 => (bif y1 != (0 : Int) then some ((false, y1)) else (ob (implf70 K x1) fun y2 => (ob (implf83 K y2) fun y3 => (ob (implf89 K y3) fun y4 => some (((↑y4.length : Int) == (↑y2.length : Int), (0 : Int))))))))
theorem q27 (K : Nat) (x1 : (List Int)) : evFnK (α := Bool × Int) (L27_0 K) 3 27 Try.f27.results.toList (codeOf Try.f27) ins27 res27 (fun p => (p.1.1, p.1.2.1)) (x1, ()) = implf27 K x1 := by kernel_rfl
noncomputable def e27 (K : Nat) : Ent := ⟨ins27, res27, Bool × Int, fun x => implf27 K x.1, fun _ => (fun y => ((y.1, y.2, ()), (()))), false⟩
theorem e27_ok (K : Nat) : EntOk Try.prog 27 (e27 K) := entOk_k (ins := ins27) (rs := res27) (α := Bool × Int) (lib27_0 K) (d := 3) Try.func27 rfl (by kernel_rfl) (by kernel_rfl) (by kernel_rfl) (fun x => implf27 K x.1) (fun p => (p.1.1, p.1.2.1)) (fun y => ((y.1, y.2, ()), (()))) (fun _ => rfl) (fun x => q27 K x.1)

/-! diaphone/diaphonelaw05.EchoShortest -/
abbrev ins4 : Fs := [(.dat (.int .i64), false)]
abbrev res4 : Sh := .dat (.bool)
theorem lp4 : loopsIn (codeOf Try.f4) 0 = [] := by kernel_rfl
noncomputable def L4_0 (K : Nat) : Lib := mkLib ti [(19, [e19 K]), (24, [e24 K]), (25, [e25 K]), (26, [e26 K]), (27, [e27 K])] [] 4 []
theorem lib4_0 (K : Nat) : LibOk Try.prog (L4_0 K) := libOk_mk (ents := [(19, [e19 K]), (24, [e24 K]), (25, [e25 K]), (26, [e26 K]), (27, [e27 K])]) (bodies := []) (loops := []) order tiOk ⟨one_ent (e19_ok K), one_ent (e24_ok K), one_ent (e25_ok K), one_ent (e26_ok K), one_ent (e27_ok K), trivial⟩ trivial Try.func4 rfl lp4 trivial
noncomputable def implf4 (K : Nat) (x1 : Int) : Option (Bool) :=
  (ob (implf25 K x1) fun y1 => (ob (implf26 K x1) fun y2 => (ob (implf24 K y1.1 y2.1) fun y3 => (bif !y3 then some (false) else (bif y1.2 != y2.2 then some (false) else (bif y1.2 != (0 : Int) then (ob (implf19 K) fun y4 => some (y4)) else (ob (implf27 K y1.1) fun y5 => (bif y5.2 == (0 : Int) then (bif y5.1 then (bif (↑y1.1.length : Int) == x1 then (ob (implf19 K) fun y6 => some (y6)) else some (false)) else some (false)) else some (false)))))))))
theorem q4 (K : Nat) (x1 : Int) : evFnK (α := Bool) (L4_0 K) 3 4 Try.f4.results.toList (codeOf Try.f4) ins4 res4 (fun p => p.1) (x1, ()) = implf4 K x1 := by kernel_rfl
noncomputable def e4 (K : Nat) : Ent := ⟨ins4, res4, Bool, fun x => implf4 K x.1, fun _ => (fun y => (y, (()))), false⟩
theorem e4_ok (K : Nat) : EntOk Try.prog 4 (e4 K) := entOk_k (ins := ins4) (rs := res4) (α := Bool) (lib4_0 K) (d := 3) Try.func4 rfl (by kernel_rfl) (by kernel_rfl) (by kernel_rfl) (fun x => implf4 K x.1) (fun p => p.1) (fun y => (y, (()))) (fun _ => rfl) (fun x => q4 K x.1)

end Go.Proofs.Ytdgibokmaannjaa
