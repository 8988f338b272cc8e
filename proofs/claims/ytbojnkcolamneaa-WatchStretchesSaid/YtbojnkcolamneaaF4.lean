/- What the functions compute: printed by a program of this claim's author. -/
import Derived.Test.YtbojnkcolamneaaF3
set_option maxRecDepth 100000
set_option linter.unusedVariables false
namespace Go.Proofs.Ytbojnkcolamneaa
open Go Go.Pv

/-! diaphone/diaphoneref04.Running -/
abbrev ins35 : Fs := [(.dat (.sl (.pr (.int .i64) (.pr (.int .i64) (.int .i64)))), false), (.dat (.int .i64), false)]
abbrev res35 : Sh := .cons (.own (.int .i64)) (.cons (.dat (.int .i64)) (.un))
theorem lp35 : loopsIn (codeOf Try.f35) 0 = [] := by kernel_rfl
noncomputable def L35_0 (K : Nat) : Lib := mkLib ti [(25, [e25 K]), (65, [e65 K]), (80, [e80 K])] [] 35 []
theorem lib35_0 (K : Nat) : LibOk Try.prog (L35_0 K) := libOk_mk (ents := [(25, [e25 K]), (65, [e65 K]), (80, [e80 K])]) (bodies := []) (loops := []) order tiOk ⟨one_ent (e25_ok K), one_ent (e65_ok K), one_ent (e80_ok K), trivial⟩ trivial Try.func35 rfl lp35 trivial
noncomputable def implf35 (K : Nat) (x1 : (List (Int × (Int × Int)))) (x2 : Int) : Option ((List Int) × Int) :=
  (ob (implf25 K x1) fun y1 => (bif y1 != (0 : Int) then some (([], y1)) else (ob (implf65 K x2 ((0 : Int)) ((1000 : Int))) fun y2 => (bif !y2 then some (([], (1 : Int))) else (ob (implf80 K x1 x2) fun y3 => some ((y3, (0 : Int))))))))
theorem q35 (K : Nat) (x1 : (List (Int × (Int × Int)))) (x2 : Int) : evFnK (α := (List Int) × Int) (L35_0 K) 3 35 Try.f35.results.toList (codeOf Try.f35) ins35 res35 (fun p => (p.1.1, p.1.2.1)) (x1, x2, ()) = implf35 K x1 x2 := by kernel_rfl
noncomputable def e35 (K : Nat) : Ent := ⟨ins35, res35, (List Int) × Int, fun x => implf35 K x.1 x.2.1, fun _ => (fun y => ((y.1, y.2, ()), (()))), false⟩
theorem e35_ok (K : Nat) : EntOk Try.prog 35 (e35 K) := entOk_k (ins := ins35) (rs := res35) (α := (List Int) × Int) (lib35_0 K) (d := 3) Try.func35 rfl (by kernel_rfl) (by kernel_rfl) (by kernel_rfl) (fun x => implf35 K x.1 x.2.1) (fun p => (p.1.1, p.1.2.1)) (fun y => ((y.1, y.2, ()), (()))) (fun _ => rfl) (fun x => q35 K x.1 x.2.1)

/-! diaphone/diaphoneref04.SameInts -/
abbrev ins36 : Fs := [(.dat (.sl (.int .i64)), false), (.dat (.sl (.int .i64)), false)]
abbrev res36 : Sh := .dat (.bool)
theorem lp36 : loopsIn (codeOf Try.f36) 0 = [(0, loopOf 0 (codeOf Try.f36))] := by kernel_rfl
noncomputable def L36_0 (K : Nat) : Lib := mkLib ti [] [] 36 []
theorem lib36_0 (K : Nat) : LibOk Try.prog (L36_0 K) := libOk_mk (ents := []) (bodies := []) (loops := []) order tiOk trivial trivial Try.func36 rfl lp36 ⟨no_lent, trivial⟩
abbrev i36_0 : Fs := [(.dat (.sl (.int Go.IntKind.i64)), false), (.dat (.sl (.int Go.IntKind.i64)), false), (.dat (.int Go.IntKind.i64), true)]
noncomputable def implb36_0 (K : Nat) (rc : (List Int) → (List Int) → Int → Option (Sum (Int × Unit) Bool)) (x1 : (List Int)) (x2 : (List Int)) (x3 : Int) : Option (Sum (Int × Unit) Bool) :=
  (bif decide (x3 < (↑x1.length : Int)) then (if (0 : Int) ≤ x3 ∧ x3 < (↑x1.length : Int) then (if (0 : Int) ≤ x3 ∧ x3 < (↑x2.length : Int) then (bif x1.getD x3.toNat ((0 : Int)) != x2.getD x3.toNat ((0 : Int)) then some (Sum.inr false) else (rc x1 x2 (IntKind.i64.wrap (x3 + (1 : Int))))) else none) else none) else some (Sum.inl (x3, ())))
noncomputable def impll36_0 (K : Nat) : Nat → (List Int) → (List Int) → Int → Option (Sum (Int × Unit) Bool)
  | 0, _, _, _ => none
  | k + 1, x1, x2, x3 => implb36_0 K (impll36_0 K k) x1 x2 x3
noncomputable def n36_0 (K : Nat) : Lent := ⟨[0, 1, 5], i36_0, [11, 12, 13, 14, 17, 18, 19, 20, 21, 22, 23, 24, 25, 4, 15, 16], [0], true, res36, fun x => impll36_0 K K x.1 x.2.1 x.2.2.1, []⟩
theorem q36_0 (K : Nat) (rc : (List Int) → (List Int) → Int → Option (Sum (Int × Unit) Bool)) (x1 : (List Int)) (x2 : (List Int)) (x3 : Int) : evLoop (L36_0 K) 3 36 Try.f36.results.toList (loopOf 0 (codeOf Try.f36)) 0 [0, 1, 5] [] i36_0 [0] true res36 (fun x => rc x.1 x.2.1 x.2.2.1) (x1, x2, x3, ()) = implb36_0 K rc x1 x2 x3 := by kernel_rfl
theorem lp36_0 : loopsIn (loopOf 0 (codeOf Try.f36)) 0 = [] := by kernel_rfl
theorem n36_0_ok (K : Nat) : LentOk Try.prog Try.f36 (loopOf 0 (codeOf Try.f36)) (n36_0 K) := lentOk_k (slots := [0, 1, 5]) (ali := []) (ins := i36_0) (writes := [11, 12, 13, 14, 17, 18, 19, 20, 21, 22, 23, 24, 25, 4, 15, 16]) (exits := [0]) (rets := true) (rs := res36) (lib36_0 K) lp36_0 trivial (by kernel_rfl) (by kernel_rfl) (by kernel_rfl) (by kernel_rfl) (by kernel_rfl) (fun k x => impll36_0 K k x.1 x.2.1 x.2.2.1) (fun _ => rfl) (fun k x => q36_0 K (impll36_0 K k) x.1 x.2.1 x.2.2.1) K
noncomputable def L36_1 (K : Nat) : Lib := mkLib ti [] [] 36 [(0, [n36_0 K])]
theorem lib36_1 (K : Nat) : LibOk Try.prog (L36_1 K) := libOk_mk (ents := []) (bodies := []) (loops := [(0, [n36_0 K])]) order tiOk trivial trivial Try.func36 rfl lp36 ⟨one_lent (n36_0_ok K), trivial⟩
noncomputable def implf36 (K : Nat) (x1 : (List Int)) (x2 : (List Int)) : Option (Bool) :=
  (bif (↑x1.length : Int) != (↑x2.length : Int) then some (false) else (ob (impll36_0 K K x1 x2 ((0 : Int))) fun y1 => (match y1 with | .inl y2 => some (true) | .inr y2 => some (y2))))
theorem q36 (K : Nat) (x1 : (List Int)) (x2 : (List Int)) : evFnK (α := Bool) (L36_1 K) 3 36 Try.f36.results.toList (codeOf Try.f36) ins36 res36 (fun p => p.1) (x1, x2, ()) = implf36 K x1 x2 := by kernel_rfl
noncomputable def e36 (K : Nat) : Ent := ⟨ins36, res36, Bool, fun x => implf36 K x.1 x.2.1, fun _ => (fun y => (y, (()))), false⟩
theorem e36_ok (K : Nat) : EntOk Try.prog 36 (e36 K) := entOk_k (ins := ins36) (rs := res36) (α := Bool) (lib36_1 K) (d := 3) Try.func36 rfl (by kernel_rfl) (by kernel_rfl) (by kernel_rfl) (fun x => implf36 K x.1 x.2.1) (fun p => p.1) (fun y => (y, (()))) (fun _ => rfl) (fun x => q36 K x.1 x.2.1)

/-! diaphone/diaphonelaw04.WatchRuns -/
abbrev ins7 : Fs := [(.dat (.sl (.pr (.int .i64) (.pr (.int .i64) (.int .i64)))), false), (.dat (.int .i64), false)]
abbrev res7 : Sh := .dat (.bool)
theorem lp7 : loopsIn (codeOf Try.f7) 0 = [] := by kernel_rfl
noncomputable def L7_0 (K : Nat) : Lib := mkLib ti [(19, [e19 K]), (20, [e20 K]), (23, [e23 K]), (33, [e33 K]), (34, [e34 K]), (35, [e35 K]), (36, [e36 K])] [] 7 []
theorem lib7_0 (K : Nat) : LibOk Try.prog (L7_0 K) := libOk_mk (ents := [(19, [e19 K]), (20, [e20 K]), (23, [e23 K]), (33, [e33 K]), (34, [e34 K]), (35, [e35 K]), (36, [e36 K])]) (bodies := []) (loops := []) order tiOk ⟨one_ent (e19_ok K), one_ent (e20_ok K), one_ent (e23_ok K), one_ent (e33_ok K), one_ent (e34_ok K), one_ent (e35_ok K), one_ent (e36_ok K), trivial⟩ trivial Try.func7 rfl lp7 trivial
noncomputable def implf7 (K : Nat) (x1 : (List (Int × (Int × Int)))) (x2 : Int) : Option (Bool) :=
  (ob (implf19 K x1 []) fun y1 => (bif y1 then (ob (implf20 K) fun y2 => some (y2)) else (ob (implf34 K x1 x2) fun y3 => (ob (implf35 K x1 x2) fun y4 => (ob (implf23 K x1) fun y5 => (ob (implf33 K x1) fun y6 => (ob (implf36 K y3.1 y4.1) fun y7 => (bif y7 then (bif y3.2 == y4.2 then (bif y5.1 == y6.1 then (bif y5.2.1 == y6.2.1 then (bif y5.2.2 == y6.2.2 then (bif y3.2 != (0 : Int) then (ob (implf20 K) fun y8 => some (y8)) else (bif decide ((↑y3.1.length : Int) ≤ y5.2.1) then (ob (implf20 K) fun y9 => some (y9)) else some (false))) else some (false)) else some (false)) else some (false)) else some (false)) else some (false)))))))))
theorem q7 (K : Nat) (x1 : (List (Int × (Int × Int)))) (x2 : Int) : evFnK (α := Bool) (L7_0 K) 3 7 Try.f7.results.toList (codeOf Try.f7) ins7 res7 (fun p => p.1) (x1, x2, ()) = implf7 K x1 x2 := by kernel_rfl
noncomputable def e7 (K : Nat) : Ent := ⟨ins7, res7, Bool, fun x => implf7 K x.1 x.2.1, fun _ => (fun y => (y, (()))), false⟩
theorem e7_ok (K : Nat) : EntOk Try.prog 7 (e7 K) := entOk_k (ins := ins7) (rs := res7) (α := Bool) (lib7_0 K) (d := 3) Try.func7 rfl (by kernel_rfl) (by kernel_rfl) (by kernel_rfl) (fun x => implf7 K x.1 x.2.1) (fun p => p.1) (fun y => (y, (()))) (fun _ => rfl) (fun x => q7 K x.1 x.2.1)

/-! diaphone/watch.firsts -/
abbrev ins82 : Fs := [(.dat (.sl (.pr (.int .i64) (.pr (.int .i64) (.int .i64)))), false)]
abbrev res82 : Sh := .own (.pr (.pr (.int .i64) (.pr (.int .i64) (.int .i64))) (.int .i64))
theorem lp82 : loopsIn (codeOf Try.f82) 0 = [(0, loopOf 0 (codeOf Try.f82))] := by kernel_rfl
noncomputable def L82_0 (K : Nat) : Lib := mkLib ti [(67, [e67a K, e67b K]), (94, [e94 K]), (95, [e95 K])] [(70, Try.f70)] 82 []
theorem lib82_0 (K : Nat) : LibOk Try.prog (L82_0 K) := libOk_mk (ents := [(67, [e67a K, e67b K]), (94, [e94 K]), (95, [e95 K])]) (bodies := [(70, Try.f70)]) (loops := []) order tiOk ⟨more_ent (e67a_ok K) (one_ent (e67b_ok K)), one_ent (e94_ok K), one_ent (e95_ok K), trivial⟩ ⟨bod70, trivial⟩ Try.func82 rfl lp82 ⟨no_lent, trivial⟩
abbrev i82_0 : Fs := [(.own (.pr (.pr (.int .i64) (.pr (.int .i64) (.int .i64))) (.int .i64)), true), (.dat (.int Go.IntKind.i64), true), (.dat (.sl (.pr (.pr (.int Go.IntKind.i64) (.pr (.int Go.IntKind.i64) (.int Go.IntKind.i64))) (.int Go.IntKind.i64))), false), (.dat (.int Go.IntKind.i64), false), (.dat (.int Go.IntKind.i64), true)]
noncomputable def implb82_0 (K : Nat) (rc : (List ((Int × (Int × Int)) × Int)) → Int → (List ((Int × (Int × Int)) × Int)) → Int → Int → Option ((List ((Int × (Int × Int)) × Int)) × Int × Int × Unit)) (x1 : (List ((Int × (Int × Int)) × Int))) (x2 : Int) (x3 : (List ((Int × (Int × Int)) × Int))) (x4 : Int) (x5 : Int) : Option ((List ((Int × (Int × Int)) × Int)) × Int × Int × Unit) :=
  (bif decide (x5 < x4) then (if (0 : Int) ≤ x5 ∧ x5 < (↑x3.length : Int) then (bif decide ((x3.getD x5.toNat (((0 : Int), (0 : Int), (0 : Int)), (0 : Int))).1.1 ≥ x2) then (if (x1.length + ((List.replicate 1 (((0 : Int), (0 : Int), (0 : Int)), (0 : Int))).set 0 (x3.getD x5.toNat (((0 : Int), (0 : Int), (0 : Int)), (0 : Int)))).length) * 32 ≤ 140737488355328 then (rc (x1 ++ (List.replicate 1 (((0 : Int), (0 : Int), (0 : Int)), (0 : Int))).set 0 (x3.getD x5.toNat (((0 : Int), (0 : Int), (0 : Int)), (0 : Int)))) (x3.getD x5.toNat (((0 : Int), (0 : Int), (0 : Int)), (0 : Int))).1.2.1 x3 x4 (IntKind.i64.wrap (x5 + (1 : Int)))) else none) else (rc x1 x2 x3 x4 (IntKind.i64.wrap (x5 + (1 : Int))))) else none) else some ((x1, x2, x5, ())))
noncomputable def impll82_0 (K : Nat) : Nat → (List ((Int × (Int × Int)) × Int)) → Int → (List ((Int × (Int × Int)) × Int)) → Int → Int → Option ((List ((Int × (Int × Int)) × Int)) × Int × Int × Unit)
  | 0, _, _, _, _, _ => none
  | k + 1, x1, x2, x3, x4, x5 => implb82_0 K (impll82_0 K k) x1 x2 x3 x4 x5
noncomputable def n82_0 (K : Nat) : Lent := ⟨[3, 4, 8, 9, 10], i82_0, [11, 12, 13, 6, 14, 15, 16, 17, 18, 19, 20, 21, 22, 23, 24, 25, 26], [0], false, res82, fun x => impll82_0 K K x.1 x.2.1 x.2.2.1 x.2.2.2.1 x.2.2.2.2.1, []⟩
theorem q82_0 (K : Nat) (rc : (List ((Int × (Int × Int)) × Int)) → Int → (List ((Int × (Int × Int)) × Int)) → Int → Int → Option ((List ((Int × (Int × Int)) × Int)) × Int × Int × Unit)) (x1 : (List ((Int × (Int × Int)) × Int))) (x2 : Int) (x3 : (List ((Int × (Int × Int)) × Int))) (x4 : Int) (x5 : Int) : evLoop (L82_0 K) 3 82 Try.f82.results.toList (loopOf 0 (codeOf Try.f82)) 0 [3, 4, 8, 9, 10] [] i82_0 [0] false res82 (fun x => rc x.1 x.2.1 x.2.2.1 x.2.2.2.1 x.2.2.2.2.1) (x1, x2, x3, x4, x5, ()) = implb82_0 K rc x1 x2 x3 x4 x5 := by kernel_rfl
theorem lp82_0 : loopsIn (loopOf 0 (codeOf Try.f82)) 0 = [] := by kernel_rfl
theorem n82_0_ok (K : Nat) : LentOk Try.prog Try.f82 (loopOf 0 (codeOf Try.f82)) (n82_0 K) := lentOk_k (slots := [3, 4, 8, 9, 10]) (ali := []) (ins := i82_0) (writes := [11, 12, 13, 6, 14, 15, 16, 17, 18, 19, 20, 21, 22, 23, 24, 25, 26]) (exits := [0]) (rets := false) (rs := res82) (lib82_0 K) lp82_0 trivial (by kernel_rfl) (by kernel_rfl) (by kernel_rfl) (by kernel_rfl) (by kernel_rfl) (fun k x => impll82_0 K k x.1 x.2.1 x.2.2.1 x.2.2.2.1 x.2.2.2.2.1) (fun _ => rfl) (fun k x => q82_0 K (impll82_0 K k) x.1 x.2.1 x.2.2.1 x.2.2.2.1 x.2.2.2.2.1) K
noncomputable def L82_1 (K : Nat) : Lib := mkLib ti [(67, [e67a K, e67b K]), (94, [e94 K]), (95, [e95 K])] [(70, Try.f70)] 82 [(0, [n82_0 K])]
theorem lib82_1 (K : Nat) : LibOk Try.prog (L82_1 K) := libOk_mk (ents := [(67, [e67a K, e67b K]), (94, [e94 K]), (95, [e95 K])]) (bodies := [(70, Try.f70)]) (loops := [(0, [n82_0 K])]) order tiOk ⟨more_ent (e67a_ok K) (one_ent (e67b_ok K)), one_ent (e94_ok K), one_ent (e95_ok K), trivial⟩ ⟨bod70, trivial⟩ Try.func82 rfl lp82 ⟨one_lent (n82_0_ok K), trivial⟩
noncomputable def implf82 (K : Nat) (x1 : (List (Int × (Int × Int)))) : Option ((List ((Int × (Int × Int)) × Int))) :=
  (ob (implf67b K x1 ()) fun y1 => (ob (impll82_0 K K [] ((0 : Int)) y1 ((↑y1.length : Int)) ((0 : Int))) fun y2 => some (y2.1)))
theorem q82 (K : Nat) (x1 : (List (Int × (Int × Int)))) : evFnK (α := (List ((Int × (Int × Int)) × Int))) (L82_1 K) 3 82 Try.f82.results.toList (codeOf Try.f82) ins82 res82 (fun p => p.1) (x1, ()) = implf82 K x1 := by kernel_rfl
noncomputable def e82 (K : Nat) : Ent := ⟨ins82, res82, (List ((Int × (Int × Int)) × Int)), fun x => implf82 K x.1, fun _ => (fun y => (y, (()))), false⟩
theorem e82_ok (K : Nat) : EntOk Try.prog 82 (e82 K) := entOk_k (ins := ins82) (rs := res82) (α := (List ((Int × (Int × Int)) × Int))) (lib82_1 K) (d := 3) Try.func82 rfl (by kernel_rfl) (by kernel_rfl) (by kernel_rfl) (fun x => implf82 K x.1) (fun p => p.1) (fun y => (y, (()))) (fun _ => rfl) (fun x => q82 K x.1)

/-! diaphone/watch.Moments -/
abbrev ins37 : Fs := [(.dat (.sl (.pr (.int .i64) (.pr (.int .i64) (.int .i64)))), false)]
abbrev res37 : Sh := .cons (.own (.int .i64)) (.cons (.dat (.int .i64)) (.un))
theorem lp37 : loopsIn (codeOf Try.f37) 0 = [(0, loopOf 0 (codeOf Try.f37))] := by kernel_rfl
noncomputable def L37_0 (K : Nat) : Lib := mkLib ti [(31, [e31 K]), (82, [e82 K])] [] 37 []
theorem lib37_0 (K : Nat) : LibOk Try.prog (L37_0 K) := libOk_mk (ents := [(31, [e31 K]), (82, [e82 K])]) (bodies := []) (loops := []) order tiOk ⟨one_ent (e31_ok K), one_ent (e82_ok K), trivial⟩ trivial Try.func37 rfl lp37 ⟨no_lent, trivial⟩
abbrev i37_0 : Fs := [(.own (.int .i64), true), (.own (.pr (.pr (.int Go.IntKind.i64) (.pr (.int Go.IntKind.i64) (.int Go.IntKind.i64))) (.int Go.IntKind.i64)), false), (.dat (.int Go.IntKind.i64), false), (.dat (.int Go.IntKind.i64), true)]
noncomputable def implb37_0 (K : Nat) (rc : (List Int) → (List ((Int × (Int × Int)) × Int)) → Int → Int → Option ((List Int) × Int × Unit)) (x1 : (List Int)) (x2 : (List ((Int × (Int × Int)) × Int))) (x3 : Int) (x4 : Int) : Option ((List Int) × Int × Unit) :=
  (bif decide (x4 < x3) then (if (0 : Int) ≤ x4 ∧ x4 < (↑x2.length : Int) then (if (x1.length + ((List.replicate 1 ((0 : Int))).set 0 (IntKind.i64.wrap ((x2.getD x4.toNat (((0 : Int), (0 : Int), (0 : Int)), (0 : Int))).1.2.1 - (1 : Int)))).length) * 8 ≤ 140737488355328 then (rc (x1 ++ (List.replicate 1 ((0 : Int))).set 0 (IntKind.i64.wrap ((x2.getD x4.toNat (((0 : Int), (0 : Int), (0 : Int)), (0 : Int))).1.2.1 - (1 : Int)))) x2 x3 (IntKind.i64.wrap (x4 + (1 : Int)))) else none) else none) else some ((x1, x4, ())))
noncomputable def impll37_0 (K : Nat) : Nat → (List Int) → (List ((Int × (Int × Int)) × Int)) → Int → Int → Option ((List Int) × Int × Unit)
  | 0, _, _, _, _ => none
  | k + 1, x1, x2, x3, x4 => implb37_0 K (impll37_0 K k) x1 x2 x3 x4
noncomputable def n37_0 (K : Nat) : Lent := ⟨[5, 14, 15, 16], i37_0, [17, 18, 19, 7, 20, 21, 22, 23, 24, 25, 26, 27], [0], false, res37, fun x => impll37_0 K K x.1 x.2.1 x.2.2.1 x.2.2.2.1, []⟩
theorem q37_0 (K : Nat) (rc : (List Int) → (List ((Int × (Int × Int)) × Int)) → Int → Int → Option ((List Int) × Int × Unit)) (x1 : (List Int)) (x2 : (List ((Int × (Int × Int)) × Int))) (x3 : Int) (x4 : Int) : evLoop (L37_0 K) 3 37 Try.f37.results.toList (loopOf 0 (codeOf Try.f37)) 0 [5, 14, 15, 16] [] i37_0 [0] false res37 (fun x => rc x.1 x.2.1 x.2.2.1 x.2.2.2.1) (x1, x2, x3, x4, ()) = implb37_0 K rc x1 x2 x3 x4 := by kernel_rfl
theorem lp37_0 : loopsIn (loopOf 0 (codeOf Try.f37)) 0 = [] := by kernel_rfl
theorem n37_0_ok (K : Nat) : LentOk Try.prog Try.f37 (loopOf 0 (codeOf Try.f37)) (n37_0 K) := lentOk_k (slots := [5, 14, 15, 16]) (ali := []) (ins := i37_0) (writes := [17, 18, 19, 7, 20, 21, 22, 23, 24, 25, 26, 27]) (exits := [0]) (rets := false) (rs := res37) (lib37_0 K) lp37_0 trivial (by kernel_rfl) (by kernel_rfl) (by kernel_rfl) (by kernel_rfl) (by kernel_rfl) (fun k x => impll37_0 K k x.1 x.2.1 x.2.2.1 x.2.2.2.1) (fun _ => rfl) (fun k x => q37_0 K (impll37_0 K k) x.1 x.2.1 x.2.2.1 x.2.2.2.1) K
noncomputable def L37_1 (K : Nat) : Lib := mkLib ti [(31, [e31 K]), (82, [e82 K])] [] 37 [(0, [n37_0 K])]
theorem lib37_1 (K : Nat) : LibOk Try.prog (L37_1 K) := libOk_mk (ents := [(31, [e31 K]), (82, [e82 K])]) (bodies := []) (loops := [(0, [n37_0 K])]) order tiOk ⟨one_ent (e31_ok K), one_ent (e82_ok K), trivial⟩ trivial Try.func37 rfl lp37 ⟨one_lent (n37_0_ok K), trivial⟩
noncomputable def implf37 (K : Nat) (x1 : (List (Int × (Int × Int)))) : Option ((List Int) × Int) :=
  (ob (implf31 K x1) fun y1 => (bif y1 != (0 : Int) then some (([], y1)) else (ob (implf82 K x1) fun y2 => (ob (impll37_0 K K [] y2 ((↑y2.length : Int)) ((0 : Int))) fun y3 => some ((y3.1, (0 : Int)))))))
theorem q37 (K : Nat) (x1 : (List (Int × (Int × Int)))) : evFnK (α := (List Int) × Int) (L37_1 K) 3 37 Try.f37.results.toList (codeOf Try.f37) ins37 res37 (fun p => (p.1.1, p.1.2.1)) (x1, ()) = implf37 K x1 := by kernel_rfl
noncomputable def e37 (K : Nat) : Ent := ⟨ins37, res37, (List Int) × Int, fun x => implf37 K x.1, fun _ => (fun y => ((y.1, y.2, ()), (()))), false⟩
theorem e37_ok (K : Nat) : EntOk Try.prog 37 (e37 K) := entOk_k (ins := ins37) (rs := res37) (α := (List Int) × Int) (lib37_1 K) (d := 3) Try.func37 rfl (by kernel_rfl) (by kernel_rfl) (by kernel_rfl) (fun x => implf37 K x.1) (fun p => (p.1.1, p.1.2.1)) (fun y => ((y.1, y.2, ()), (()))) (fun _ => rfl) (fun x => q37 K x.1)

/-! diaphone/diaphoneref04.CheckMoments -/
abbrev ins38 : Fs := [(.dat (.sl (.pr (.int .i64) (.pr (.int .i64) (.int .i64)))), false), (.dat (.sl (.int .i64)), false)]
abbrev res38 : Sh := .cons (.dat (.int .i64)) (.cons (.dat (.int .i64)) (.un))
theorem lp38 : loopsIn (codeOf Try.f38) 0 = [(0, loopOf 0 (codeOf Try.f38)), (2, loopOf 2 (codeOf Try.f38))] := by kernel_rfl
noncomputable def L38_0 (K : Nat) : Lib := mkLib ti [(25, [e25 K]), (73, [e73 K]), (83, [e83 K])] [] 38 []
theorem lib38_0 (K : Nat) : LibOk Try.prog (L38_0 K) := libOk_mk (ents := [(25, [e25 K]), (73, [e73 K]), (83, [e83 K])]) (bodies := []) (loops := []) order tiOk ⟨one_ent (e25_ok K), one_ent (e73_ok K), one_ent (e83_ok K), trivial⟩ trivial Try.func38 rfl lp38 ⟨no_lent, no_lent, trivial⟩
abbrev i38_0 : Fs := [(.dat (.sl (.pr (.int Go.IntKind.i64) (.pr (.int Go.IntKind.i64) (.int Go.IntKind.i64)))), false), (.dat (.sl (.int Go.IntKind.i64)), false), (.dat (.int Go.IntKind.i64), true)]
abbrev i38_2 : Fs := [(.dat (.sl (.pr (.int Go.IntKind.i64) (.pr (.int Go.IntKind.i64) (.int Go.IntKind.i64)))), false), (.dat (.sl (.int Go.IntKind.i64)), false), (.dat (.int Go.IntKind.i64), false), (.dat (.bool), true), (.dat (.int Go.IntKind.i64), true)]
noncomputable def implb38_2 (K : Nat) (rc : (List (Int × (Int × Int))) → (List Int) → Int → Bool → Int → Option (Bool × Int × Unit)) (x1 : (List (Int × (Int × Int)))) (x2 : (List Int)) (x3 : Int) (x4 : Bool) (x5 : Int) : Option (Bool × Int × Unit) :=
  (bif decide (x5 < (↑x2.length : Int)) then (bif x4 then (rc x1 x2 x3 true (IntKind.i64.wrap (x5 + (1 : Int)))) else (if (0 : Int) ≤ x3 ∧ x3 < (↑x1.length : Int) then (if (0 : Int) ≤ x5 ∧ x5 < (↑x2.length : Int) then (ob (implf83 K (x1.getD x3.toNat ((0 : Int), (0 : Int), (0 : Int))) (x2.getD x5.toNat ((0 : Int)))) fun y1 => (rc x1 x2 x3 y1 (IntKind.i64.wrap (x5 + (1 : Int))))) else none) else none)) else some ((x4, x5, ())))
noncomputable def impll38_2 (K : Nat) : Nat → (List (Int × (Int × Int))) → (List Int) → Int → Bool → Int → Option (Bool × Int × Unit)
  | 0, _, _, _, _, _ => none
  | k + 1, x1, x2, x3, x4, x5 => implb38_2 K (impll38_2 K k) x1 x2 x3 x4 x5
noncomputable def n38_2 (K : Nat) : Lent := ⟨[0, 1, 7, 8, 9], i38_2, [24, 25, 26, 27, 30, 31, 32, 33, 34, 35, 36, 37, 38, 39, 40, 41, 28, 29], [2], false, res38, fun x => impll38_2 K K x.1 x.2.1 x.2.2.1 x.2.2.2.1 x.2.2.2.2.1, []⟩
theorem q38_2 (K : Nat) (rc : (List (Int × (Int × Int))) → (List Int) → Int → Bool → Int → Option (Bool × Int × Unit)) (x1 : (List (Int × (Int × Int)))) (x2 : (List Int)) (x3 : Int) (x4 : Bool) (x5 : Int) : evLoop (L38_0 K) 3 38 Try.f38.results.toList (loopOf 2 (codeOf Try.f38)) 2 [0, 1, 7, 8, 9] [] i38_2 [2] false res38 (fun x => rc x.1 x.2.1 x.2.2.1 x.2.2.2.1 x.2.2.2.2.1) (x1, x2, x3, x4, x5, ()) = implb38_2 K rc x1 x2 x3 x4 x5 := by kernel_rfl
theorem lp38_2 : loopsIn (loopOf 2 (codeOf Try.f38)) 2 = [] := by kernel_rfl
theorem n38_2_ok (K : Nat) : LentOk Try.prog Try.f38 (loopOf 2 (codeOf Try.f38)) (n38_2 K) := lentOk_k (slots := [0, 1, 7, 8, 9]) (ali := []) (ins := i38_2) (writes := [24, 25, 26, 27, 30, 31, 32, 33, 34, 35, 36, 37, 38, 39, 40, 41, 28, 29]) (exits := [2]) (rets := false) (rs := res38) (lib38_0 K) lp38_2 trivial (by kernel_rfl) (by kernel_rfl) (by kernel_rfl) (by kernel_rfl) (by kernel_rfl) (fun k x => impll38_2 K k x.1 x.2.1 x.2.2.1 x.2.2.2.1 x.2.2.2.2.1) (fun _ => rfl) (fun k x => q38_2 K (impll38_2 K k) x.1 x.2.1 x.2.2.1 x.2.2.2.1 x.2.2.2.2.1) K
noncomputable def L38_1 (K : Nat) : Lib := mkLib ti [(25, [e25 K]), (73, [e73 K]), (83, [e83 K])] [] 38 [(2, [n38_2 K])]
theorem lib38_1 (K : Nat) : LibOk Try.prog (L38_1 K) := libOk_mk (ents := [(25, [e25 K]), (73, [e73 K]), (83, [e83 K])]) (bodies := []) (loops := [(2, [n38_2 K])]) order tiOk ⟨one_ent (e25_ok K), one_ent (e73_ok K), one_ent (e83_ok K), trivial⟩ trivial Try.func38 rfl lp38 ⟨no_lent, one_lent (n38_2_ok K), trivial⟩
noncomputable def implb38_0 (K : Nat) (rc : (List (Int × (Int × Int))) → (List Int) → Int → Option (Sum (Int × Unit) (Int × Int × Unit))) (x1 : (List (Int × (Int × Int)))) (x2 : (List Int)) (x3 : Int) : Option (Sum (Int × Unit) (Int × Int × Unit)) :=
  (bif decide (x3 < (↑x1.length : Int)) then (ob (impll38_2 K K x1 x2 x3 false ((0 : Int))) fun y1 => (bif !y1.1 then some (Sum.inr ((0 : Int), (6 : Int), ())) else (rc x1 x2 (IntKind.i64.wrap (x3 + (1 : Int)))))) else some (Sum.inl (x3, ())))
noncomputable def impll38_0 (K : Nat) : Nat → (List (Int × (Int × Int))) → (List Int) → Int → Option (Sum (Int × Unit) (Int × Int × Unit))
  | 0, _, _, _ => none
  | k + 1, x1, x2, x3 => implb38_0 K (impll38_0 K k) x1 x2 x3
noncomputable def n38_0 (K : Nat) : Lent := ⟨[0, 1, 7], i38_0, [18, 19, 20, 21, 8, 9, 24, 25, 26, 27, 30, 31, 32, 33, 34, 35, 36, 37, 38, 39, 40, 41, 28, 29, 42, 43, 4, 5, 22, 23], [0], true, res38, fun x => impll38_0 K K x.1 x.2.1 x.2.2.1, []⟩
theorem q38_0 (K : Nat) (rc : (List (Int × (Int × Int))) → (List Int) → Int → Option (Sum (Int × Unit) (Int × Int × Unit))) (x1 : (List (Int × (Int × Int)))) (x2 : (List Int)) (x3 : Int) : evLoop (L38_1 K) 3 38 Try.f38.results.toList (loopOf 0 (codeOf Try.f38)) 0 [0, 1, 7] [] i38_0 [0] true res38 (fun x => rc x.1 x.2.1 x.2.2.1) (x1, x2, x3, ()) = implb38_0 K rc x1 x2 x3 := by kernel_rfl
theorem lp38_0 : loopsIn (loopOf 0 (codeOf Try.f38)) 0 = [(2, loopOf 2 (codeOf Try.f38))] := by kernel_rfl
theorem n38_0_ok (K : Nat) : LentOk Try.prog Try.f38 (loopOf 0 (codeOf Try.f38)) (n38_0 K) := lentOk_k (slots := [0, 1, 7]) (ali := []) (ins := i38_0) (writes := [18, 19, 20, 21, 8, 9, 24, 25, 26, 27, 30, 31, 32, 33, 34, 35, 36, 37, 38, 39, 40, 41, 28, 29, 42, 43, 4, 5, 22, 23]) (exits := [0]) (rets := true) (rs := res38) (lib38_1 K) lp38_0 ⟨one_lent (n38_2_ok K), trivial⟩ (by kernel_rfl) (by kernel_rfl) (by kernel_rfl) (by kernel_rfl) (by kernel_rfl) (fun k x => impll38_0 K k x.1 x.2.1 x.2.2.1) (fun _ => rfl) (fun k x => q38_0 K (impll38_0 K k) x.1 x.2.1 x.2.2.1) K
noncomputable def L38_2 (K : Nat) : Lib := mkLib ti [(25, [e25 K]), (73, [e73 K]), (83, [e83 K])] [] 38 [(2, [n38_2 K]), (0, [n38_0 K])]
theorem lib38_2 (K : Nat) : LibOk Try.prog (L38_2 K) := libOk_mk (ents := [(25, [e25 K]), (73, [e73 K]), (83, [e83 K])]) (bodies := []) (loops := [(2, [n38_2 K]), (0, [n38_0 K])]) order tiOk ⟨one_ent (e25_ok K), one_ent (e73_ok K), one_ent (e83_ok K), trivial⟩ trivial Try.func38 rfl lp38 ⟨one_lent (n38_0_ok K), one_lent (n38_2_ok K), trivial⟩
noncomputable def implf38 (K : Nat) (x1 : (List (Int × (Int × Int)))) (x2 : (List Int)) : Option (Int × Int) :=
  (ob (implf25 K x1) fun y1 => (bif y1 != (0 : Int) then some (((0 : Int), y1)) else (ob (implf73 K x2 ((1000 : Int))) fun y2 => (bif !y2 then some (((0 : Int), (1 : Int))) else (ob (impll38_0 K K x1 x2 ((0 : Int))) fun y3 => (match y3 with | .inl y4 => some (((↑x2.length : Int), (0 : Int))) | .inr y4 => some ((y4.1, y4.2.1))))))))
theorem q38 (K : Nat) (x1 : (List (Int × (Int × Int)))) (x2 : (List Int)) : evFnK (α := Int × Int) (L38_2 K) 3 38 Try.f38.results.toList (codeOf Try.f38) ins38 res38 (fun p => (p.1.1, p.1.2.1)) (x1, x2, ()) = implf38 K x1 x2 := by kernel_rfl
noncomputable def e38 (K : Nat) : Ent := ⟨ins38, res38, Int × Int, fun x => implf38 K x.1 x.2.1, fun _ => (fun y => ((y.1, y.2, ()), (()))), false⟩
theorem e38_ok (K : Nat) : EntOk Try.prog 38 (e38 K) := entOk_k (ins := ins38) (rs := res38) (α := Int × Int) (lib38_2 K) (d := 3) Try.func38 rfl (by kernel_rfl) (by kernel_rfl) (by kernel_rfl) (fun x => implf38 K x.1 x.2.1) (fun p => (p.1.1, p.1.2.1)) (fun y => ((y.1, y.2, ()), (()))) (fun _ => rfl) (fun x => q38 K x.1 x.2.1)

/-! diaphone/diaphonelaw04.WatchMoments -/
abbrev ins8 : Fs := [(.dat (.sl (.pr (.int .i64) (.pr (.int .i64) (.int .i64)))), false)]
abbrev res8 : Sh := .dat (.bool)
theorem lp8 : loopsIn (codeOf Try.f8) 0 = [] := by kernel_rfl
noncomputable def L8_0 (K : Nat) : Lib := mkLib ti [(19, [e19 K]), (20, [e20 K]), (25, [e25 K]), (27, [e27 K]), (37, [e37 K]), (38, [e38 K])] [] 8 []
theorem lib8_0 (K : Nat) : LibOk Try.prog (L8_0 K) := libOk_mk (ents := [(19, [e19 K]), (20, [e20 K]), (25, [e25 K]), (27, [e27 K]), (37, [e37 K]), (38, [e38 K])]) (bodies := []) (loops := []) order tiOk ⟨one_ent (e19_ok K), one_ent (e20_ok K), one_ent (e25_ok K), one_ent (e27_ok K), one_ent (e37_ok K), one_ent (e38_ok K), trivial⟩ trivial Try.func8 rfl lp8 trivial
noncomputable def implf8 (K : Nat) (x1 : (List (Int × (Int × Int)))) : Option (Bool) :=
  (ob (implf19 K x1 []) fun y1 => (bif y1 then (ob (implf20 K) fun y2 => some (y2)) else (ob (implf37 K x1) fun y3 => (ob (implf25 K x1) fun y4 => (bif y3.2 != y4 then some (false) else (bif y3.2 != (0 : Int) then (bif (↑y3.1.length : Int) == (0 : Int) then (ob (implf20 K) fun y5 => some (y5)) else some (false)) else (ob (implf38 K x1 y3.1) fun y6 => (ob (implf27 K x1) fun y7 => (bif y6.2 == (0 : Int) then (bif y6.1 == y7.1 then (ob (implf20 K) fun y8 => some (y8)) else some (false)) else some (false))))))))))
theorem q8 (K : Nat) (x1 : (List (Int × (Int × Int)))) : evFnK (α := Bool) (L8_0 K) 3 8 Try.f8.results.toList (codeOf Try.f8) ins8 res8 (fun p => p.1) (x1, ()) = implf8 K x1 := by kernel_rfl
noncomputable def e8 (K : Nat) : Ent := ⟨ins8, res8, Bool, fun x => implf8 K x.1, fun _ => (fun y => (y, (()))), false⟩
theorem e8_ok (K : Nat) : EntOk Try.prog 8 (e8 K) := entOk_k (ins := ins8) (rs := res8) (α := Bool) (lib8_0 K) (d := 3) Try.func8 rfl (by kernel_rfl) (by kernel_rfl) (by kernel_rfl) (fun x => implf8 K x.1) (fun p => p.1) (fun y => (y, (()))) (fun _ => rfl) (fun x => q8 K x.1)

/-! diaphone/watch.spells -/
abbrev ins84 : Fs := [(.dat (.sl (.pr (.int .i64) (.pr (.int .i64) (.int .i64)))), false)]
abbrev res84 : Sh := .own (.pr (.int .i64) (.pr (.int .i64) (.int .i64)))
theorem lp84 : loopsIn (codeOf Try.f84) 0 = [(0, loopOf 0 (codeOf Try.f84))] := by kernel_rfl
noncomputable def L84_0 (K : Nat) : Lib := mkLib ti [(67, [e67a K, e67b K]), (94, [e94 K]), (95, [e95 K])] [(68, Try.f68)] 84 []
theorem lib84_0 (K : Nat) : LibOk Try.prog (L84_0 K) := libOk_mk (ents := [(67, [e67a K, e67b K]), (94, [e94 K]), (95, [e95 K])]) (bodies := [(68, Try.f68)]) (loops := []) order tiOk ⟨more_ent (e67a_ok K) (one_ent (e67b_ok K)), one_ent (e94_ok K), one_ent (e95_ok K), trivial⟩ ⟨bod68, trivial⟩ Try.func84 rfl lp84 ⟨no_lent, trivial⟩
abbrev i84_0 : Fs := [(.own (.pr (.int .i64) (.pr (.int .i64) (.int .i64))), true), (.dat (.sl (.pr (.pr (.int Go.IntKind.i64) (.pr (.int Go.IntKind.i64) (.int Go.IntKind.i64))) (.int Go.IntKind.i64))), false), (.dat (.int Go.IntKind.i64), false), (.dat (.int Go.IntKind.i64), true)]
noncomputable def implb84_0 (K : Nat) (rc : (List (Int × (Int × Int))) → (List ((Int × (Int × Int)) × Int)) → Int → Int → Option ((List (Int × (Int × Int))) × Int × Unit)) (x1 : (List (Int × (Int × Int)))) (x2 : (List ((Int × (Int × Int)) × Int))) (x3 : Int) (x4 : Int) : Option ((List (Int × (Int × Int))) × Int × Unit) :=
  (bif decide (x4 < x3) then (if (0 : Int) ≤ x4 ∧ x4 < (↑x2.length : Int) then (bif decide ((↑x1.length : Int) > (0 : Int)) then (if (0 : Int) ≤ IntKind.i64.wrap ((↑x1.length : Int) - (1 : Int)) ∧ IntKind.i64.wrap ((↑x1.length : Int) - (1 : Int)) < (↑x1.length : Int) then (bif decide ((x1.getD (IntKind.i64.wrap ((↑x1.length : Int) - (1 : Int))).toNat ((0 : Int), (0 : Int), (0 : Int))).2.1 ≥ (x2.getD x4.toNat (((0 : Int), (0 : Int), (0 : Int)), (0 : Int))).1.1) then (if (0 : Int) ≤ IntKind.i64.wrap ((↑x1.length : Int) - (1 : Int)) ∧ IntKind.i64.wrap ((↑x1.length : Int) - (1 : Int)) < (↑x1.length : Int) then (if (0 : Int) ≤ IntKind.i64.wrap ((↑x1.length : Int) - (1 : Int)) ∧ IntKind.i64.wrap ((↑x1.length : Int) - (1 : Int)) < (↑x1.length : Int) then (rc (x1.set (IntKind.i64.wrap ((↑x1.length : Int) - (1 : Int))).toNat ((x1.getD (IntKind.i64.wrap ((↑x1.length : Int) - (1 : Int))).toNat ((0 : Int), (0 : Int), (0 : Int))).1, max (x1.getD (IntKind.i64.wrap ((↑x1.length : Int) - (1 : Int))).toNat ((0 : Int), (0 : Int), (0 : Int))).2.1 (x2.getD x4.toNat (((0 : Int), (0 : Int), (0 : Int)), (0 : Int))).1.2.1, (x1.getD (IntKind.i64.wrap ((↑x1.length : Int) - (1 : Int))).toNat ((0 : Int), (0 : Int), (0 : Int))).2.2)) x2 x3 (IntKind.i64.wrap (x4 + (1 : Int)))) else none) else none) else (if (x1.length + ((List.replicate 1 ((0 : Int), (0 : Int), (0 : Int))).set 0 ((x2.getD x4.toNat (((0 : Int), (0 : Int), (0 : Int)), (0 : Int))).1.1, (x2.getD x4.toNat (((0 : Int), (0 : Int), (0 : Int)), (0 : Int))).1.2.1, (0 : Int))).length) * 24 ≤ 140737488355328 then (rc (x1 ++ (List.replicate 1 ((0 : Int), (0 : Int), (0 : Int))).set 0 ((x2.getD x4.toNat (((0 : Int), (0 : Int), (0 : Int)), (0 : Int))).1.1, (x2.getD x4.toNat (((0 : Int), (0 : Int), (0 : Int)), (0 : Int))).1.2.1, (0 : Int))) x2 x3 (IntKind.i64.wrap (x4 + (1 : Int)))) else none)) else none) else (if (x1.length + ((List.replicate 1 ((0 : Int), (0 : Int), (0 : Int))).set 0 ((x2.getD x4.toNat (((0 : Int), (0 : Int), (0 : Int)), (0 : Int))).1.1, (x2.getD x4.toNat (((0 : Int), (0 : Int), (0 : Int)), (0 : Int))).1.2.1, (0 : Int))).length) * 24 ≤ 140737488355328 then (rc (x1 ++ (List.replicate 1 ((0 : Int), (0 : Int), (0 : Int))).set 0 ((x2.getD x4.toNat (((0 : Int), (0 : Int), (0 : Int)), (0 : Int))).1.1, (x2.getD x4.toNat (((0 : Int), (0 : Int), (0 : Int)), (0 : Int))).1.2.1, (0 : Int))) x2 x3 (IntKind.i64.wrap (x4 + (1 : Int)))) else none)) else none) else some ((x1, x4, ())))
noncomputable def impll84_0 (K : Nat) : Nat → (List (Int × (Int × Int))) → (List ((Int × (Int × Int)) × Int)) → Int → Int → Option ((List (Int × (Int × Int))) × Int × Unit)
  | 0, _, _, _, _ => none
  | k + 1, x1, x2, x3, x4 => implb84_0 K (impll84_0 K k) x1 x2 x3 x4
noncomputable def n84_0 (K : Nat) : Lent := ⟨[3, 8, 9, 10], i84_0, [11, 12, 13, 5, 14, 15, 6, 16, 17, 18, 19, 20, 21, 22, 23, 24, 25, 26, 27, 28, 29, 30, 31, 32, 33, 34, 35, 36, 37, 38, 39, 40, 41, 42, 43, 44, 45, 46, 47, 48, 49, 50, 51, 52, 53, 54, 55], [0], false, res84, fun x => impll84_0 K K x.1 x.2.1 x.2.2.1 x.2.2.2.1, []⟩
theorem q84_0 (K : Nat) (rc : (List (Int × (Int × Int))) → (List ((Int × (Int × Int)) × Int)) → Int → Int → Option ((List (Int × (Int × Int))) × Int × Unit)) (x1 : (List (Int × (Int × Int)))) (x2 : (List ((Int × (Int × Int)) × Int))) (x3 : Int) (x4 : Int) : evLoop (L84_0 K) 3 84 Try.f84.results.toList (loopOf 0 (codeOf Try.f84)) 0 [3, 8, 9, 10] [] i84_0 [0] false res84 (fun x => rc x.1 x.2.1 x.2.2.1 x.2.2.2.1) (x1, x2, x3, x4, ()) = implb84_0 K rc x1 x2 x3 x4 := by kernel_rfl
theorem lp84_0 : loopsIn (loopOf 0 (codeOf Try.f84)) 0 = [] := by kernel_rfl
theorem n84_0_ok (K : Nat) : LentOk Try.prog Try.f84 (loopOf 0 (codeOf Try.f84)) (n84_0 K) := lentOk_k (slots := [3, 8, 9, 10]) (ali := []) (ins := i84_0) (writes := [11, 12, 13, 5, 14, 15, 6, 16, 17, 18, 19, 20, 21, 22, 23, 24, 25, 26, 27, 28, 29, 30, 31, 32, 33, 34, 35, 36, 37, 38, 39, 40, 41, 42, 43, 44, 45, 46, 47, 48, 49, 50, 51, 52, 53, 54, 55]) (exits := [0]) (rets := false) (rs := res84) (lib84_0 K) lp84_0 trivial (by kernel_rfl) (by kernel_rfl) (by kernel_rfl) (by kernel_rfl) (by kernel_rfl) (fun k x => impll84_0 K k x.1 x.2.1 x.2.2.1 x.2.2.2.1) (fun _ => rfl) (fun k x => q84_0 K (impll84_0 K k) x.1 x.2.1 x.2.2.1 x.2.2.2.1) K
noncomputable def L84_1 (K : Nat) : Lib := mkLib ti [(67, [e67a K, e67b K]), (94, [e94 K]), (95, [e95 K])] [(68, Try.f68)] 84 [(0, [n84_0 K])]
theorem lib84_1 (K : Nat) : LibOk Try.prog (L84_1 K) := libOk_mk (ents := [(67, [e67a K, e67b K]), (94, [e94 K]), (95, [e95 K])]) (bodies := [(68, Try.f68)]) (loops := [(0, [n84_0 K])]) order tiOk ⟨more_ent (e67a_ok K) (one_ent (e67b_ok K)), one_ent (e94_ok K), one_ent (e95_ok K), trivial⟩ ⟨bod68, trivial⟩ Try.func84 rfl lp84 ⟨one_lent (n84_0_ok K), trivial⟩
noncomputable def implf84 (K : Nat) (x1 : (List (Int × (Int × Int)))) : Option ((List (Int × (Int × Int)))) :=
  (ob (implf67a K x1 ()) fun y1 => (ob (impll84_0 K K [] y1 ((↑y1.length : Int)) ((0 : Int))) fun y2 => some (y2.1)))
theorem q84 (K : Nat) (x1 : (List (Int × (Int × Int)))) : evFnK (α := (List (Int × (Int × Int)))) (L84_1 K) 3 84 Try.f84.results.toList (codeOf Try.f84) ins84 res84 (fun p => p.1) (x1, ()) = implf84 K x1 := by kernel_rfl
noncomputable def e84 (K : Nat) : Ent := ⟨ins84, res84, (List (Int × (Int × Int))), fun x => implf84 K x.1, fun _ => (fun y => (y, (()))), false⟩
theorem e84_ok (K : Nat) : EntOk Try.prog 84 (e84 K) := entOk_k (ins := ins84) (rs := res84) (α := (List (Int × (Int × Int)))) (lib84_1 K) (d := 3) Try.func84 rfl (by kernel_rfl) (by kernel_rfl) (by kernel_rfl) (fun x => implf84 K x.1) (fun p => p.1) (fun y => (y, (()))) (fun _ => rfl) (fun x => q84 K x.1)

/-! diaphone/watch.Covered -/
abbrev ins39 : Fs := [(.dat (.sl (.pr (.int .i64) (.pr (.int .i64) (.int .i64)))), false)]
abbrev res39 : Sh := .cons (.dat (.int .i64)) (.cons (.dat (.int .i64)) (.un))
theorem lp39 : loopsIn (codeOf Try.f39) 0 = [(0, loopOf 0 (codeOf Try.f39))] := by kernel_rfl
noncomputable def L39_0 (K : Nat) : Lib := mkLib ti [(31, [e31 K]), (84, [e84 K])] [] 39 []
theorem lib39_0 (K : Nat) : LibOk Try.prog (L39_0 K) := libOk_mk (ents := [(31, [e31 K]), (84, [e84 K])]) (bodies := []) (loops := []) order tiOk ⟨one_ent (e31_ok K), one_ent (e84_ok K), trivial⟩ trivial Try.func39 rfl lp39 ⟨no_lent, trivial⟩
abbrev i39_0 : Fs := [(.dat (.int Go.IntKind.i64), true), (.own (.pr (.int Go.IntKind.i64) (.pr (.int Go.IntKind.i64) (.int Go.IntKind.i64))), false), (.dat (.int Go.IntKind.i64), false), (.dat (.int Go.IntKind.i64), true)]
noncomputable def implb39_0 (K : Nat) (rc : Int → (List (Int × (Int × Int))) → Int → Int → Option (Int × Int × Unit)) (x1 : Int) (x2 : (List (Int × (Int × Int)))) (x3 : Int) (x4 : Int) : Option (Int × Int × Unit) :=
  (bif decide (x4 < x3) then (if (0 : Int) ≤ x4 ∧ x4 < (↑x2.length : Int) then (rc (IntKind.i64.wrap (x1 + IntKind.i64.wrap ((x2.getD x4.toNat ((0 : Int), (0 : Int), (0 : Int))).2.1 - (x2.getD x4.toNat ((0 : Int), (0 : Int), (0 : Int))).1))) x2 x3 (IntKind.i64.wrap (x4 + (1 : Int)))) else none) else some ((x1, x4, ())))
noncomputable def impll39_0 (K : Nat) : Nat → Int → (List (Int × (Int × Int))) → Int → Int → Option (Int × Int × Unit)
  | 0, _, _, _, _ => none
  | k + 1, x1, x2, x3, x4 => implb39_0 K (impll39_0 K k) x1 x2 x3 x4
noncomputable def n39_0 (K : Nat) : Lent := ⟨[5, 14, 15, 16], i39_0, [17, 18, 19, 7, 20, 21, 22, 23, 24, 25, 26, 27], [0], false, res39, fun x => impll39_0 K K x.1 x.2.1 x.2.2.1 x.2.2.2.1, []⟩
theorem q39_0 (K : Nat) (rc : Int → (List (Int × (Int × Int))) → Int → Int → Option (Int × Int × Unit)) (x1 : Int) (x2 : (List (Int × (Int × Int)))) (x3 : Int) (x4 : Int) : evLoop (L39_0 K) 3 39 Try.f39.results.toList (loopOf 0 (codeOf Try.f39)) 0 [5, 14, 15, 16] [] i39_0 [0] false res39 (fun x => rc x.1 x.2.1 x.2.2.1 x.2.2.2.1) (x1, x2, x3, x4, ()) = implb39_0 K rc x1 x2 x3 x4 := by kernel_rfl
theorem lp39_0 : loopsIn (loopOf 0 (codeOf Try.f39)) 0 = [] := by kernel_rfl
theorem n39_0_ok (K : Nat) : LentOk Try.prog Try.f39 (loopOf 0 (codeOf Try.f39)) (n39_0 K) := lentOk_k (slots := [5, 14, 15, 16]) (ali := []) (ins := i39_0) (writes := [17, 18, 19, 7, 20, 21, 22, 23, 24, 25, 26, 27]) (exits := [0]) (rets := false) (rs := res39) (lib39_0 K) lp39_0 trivial (by kernel_rfl) (by kernel_rfl) (by kernel_rfl) (by kernel_rfl) (by kernel_rfl) (fun k x => impll39_0 K k x.1 x.2.1 x.2.2.1 x.2.2.2.1) (fun _ => rfl) (fun k x => q39_0 K (impll39_0 K k) x.1 x.2.1 x.2.2.1 x.2.2.2.1) K
noncomputable def L39_1 (K : Nat) : Lib := mkLib ti [(31, [e31 K]), (84, [e84 K])] [] 39 [(0, [n39_0 K])]
theorem lib39_1 (K : Nat) : LibOk Try.prog (L39_1 K) := libOk_mk (ents := [(31, [e31 K]), (84, [e84 K])]) (bodies := []) (loops := [(0, [n39_0 K])]) order tiOk ⟨one_ent (e31_ok K), one_ent (e84_ok K), trivial⟩ trivial Try.func39 rfl lp39 ⟨one_lent (n39_0_ok K), trivial⟩
noncomputable def implf39 (K : Nat) (x1 : (List (Int × (Int × Int)))) : Option (Int × Int) :=
  (ob (implf31 K x1) fun y1 => (bif y1 != (0 : Int) then some (((0 : Int), y1)) else (ob (implf84 K x1) fun y2 => (ob (impll39_0 K K ((0 : Int)) y2 ((↑y2.length : Int)) ((0 : Int))) fun y3 => some ((y3.1, (0 : Int)))))))
theorem q39 (K : Nat) (x1 : (List (Int × (Int × Int)))) : evFnK (α := Int × Int) (L39_1 K) 3 39 Try.f39.results.toList (codeOf Try.f39) ins39 res39 (fun p => (p.1.1, p.1.2.1)) (x1, ()) = implf39 K x1 := by kernel_rfl
noncomputable def e39 (K : Nat) : Ent := ⟨ins39, res39, Int × Int, fun x => implf39 K x.1, fun _ => (fun y => ((y.1, y.2, ()), (()))), false⟩
theorem e39_ok (K : Nat) : EntOk Try.prog 39 (e39 K) := entOk_k (ins := ins39) (rs := res39) (α := Int × Int) (lib39_1 K) (d := 3) Try.func39 rfl (by kernel_rfl) (by kernel_rfl) (by kernel_rfl) (fun x => implf39 K x.1) (fun p => (p.1.1, p.1.2.1)) (fun y => ((y.1, y.2, ()), (()))) (fun _ => rfl) (fun x => q39 K x.1)

/-! diaphone/watch.Alone -/
abbrev ins40 : Fs := [(.dat (.sl (.pr (.int .i64) (.pr (.int .i64) (.int .i64)))), false)]
abbrev res40 : Sh := .cons (.own (.int .i64)) (.cons (.dat (.int .i64)) (.un))
theorem lp40 : loopsIn (codeOf Try.f40) 0 = [(0, loopOf 0 (codeOf Try.f40))] := by kernel_rfl
noncomputable def L40_0 (K : Nat) : Lib := mkLib ti [(31, [e31 K]), (63, [e63 K]), (82, [e82 K])] [] 40 []
theorem lib40_0 (K : Nat) : LibOk Try.prog (L40_0 K) := libOk_mk (ents := [(31, [e31 K]), (63, [e63 K]), (82, [e82 K])]) (bodies := []) (loops := []) order tiOk ⟨one_ent (e31_ok K), one_ent (e63_ok K), one_ent (e82_ok K), trivial⟩ trivial Try.func40 rfl lp40 ⟨no_lent, trivial⟩
abbrev i40_0 : Fs := [(.own (.int .i64), true), (.own (.pr (.pr (.int Go.IntKind.i64) (.pr (.int Go.IntKind.i64) (.int Go.IntKind.i64))) (.int Go.IntKind.i64)), false), (.dat (.int Go.IntKind.i64), false), (.dat (.int Go.IntKind.i64), true)]
noncomputable def implb40_0 (K : Nat) (rc : (List Int) → (List ((Int × (Int × Int)) × Int)) → Int → Int → Option ((List Int) × Int × Unit)) (x1 : (List Int)) (x2 : (List ((Int × (Int × Int)) × Int))) (x3 : Int) (x4 : Int) : Option ((List Int) × Int × Unit) :=
  (bif decide (x4 < x3) then (if (0 : Int) ≤ x4 ∧ x4 < (↑x2.length : Int) then (if (x1.length + ((List.replicate 1 ((0 : Int))).set 0 (x2.getD x4.toNat (((0 : Int), (0 : Int), (0 : Int)), (0 : Int))).2).length) * 8 ≤ 140737488355328 then (rc (x1 ++ (List.replicate 1 ((0 : Int))).set 0 (x2.getD x4.toNat (((0 : Int), (0 : Int), (0 : Int)), (0 : Int))).2) x2 x3 (IntKind.i64.wrap (x4 + (1 : Int)))) else none) else none) else some ((x1, x4, ())))
noncomputable def impll40_0 (K : Nat) : Nat → (List Int) → (List ((Int × (Int × Int)) × Int)) → Int → Int → Option ((List Int) × Int × Unit)
  | 0, _, _, _, _ => none
  | k + 1, x1, x2, x3, x4 => implb40_0 K (impll40_0 K k) x1 x2 x3 x4
noncomputable def n40_0 (K : Nat) : Lent := ⟨[5, 14, 15, 16], i40_0, [17, 18, 19, 7, 20, 21, 22, 23, 24, 25], [0], false, res40, fun x => impll40_0 K K x.1 x.2.1 x.2.2.1 x.2.2.2.1, []⟩
theorem q40_0 (K : Nat) (rc : (List Int) → (List ((Int × (Int × Int)) × Int)) → Int → Int → Option ((List Int) × Int × Unit)) (x1 : (List Int)) (x2 : (List ((Int × (Int × Int)) × Int))) (x3 : Int) (x4 : Int) : evLoop (L40_0 K) 3 40 Try.f40.results.toList (loopOf 0 (codeOf Try.f40)) 0 [5, 14, 15, 16] [] i40_0 [0] false res40 (fun x => rc x.1 x.2.1 x.2.2.1 x.2.2.2.1) (x1, x2, x3, x4, ()) = implb40_0 K rc x1 x2 x3 x4 := by kernel_rfl
theorem lp40_0 : loopsIn (loopOf 0 (codeOf Try.f40)) 0 = [] := by kernel_rfl
theorem n40_0_ok (K : Nat) : LentOk Try.prog Try.f40 (loopOf 0 (codeOf Try.f40)) (n40_0 K) := lentOk_k (slots := [5, 14, 15, 16]) (ali := []) (ins := i40_0) (writes := [17, 18, 19, 7, 20, 21, 22, 23, 24, 25]) (exits := [0]) (rets := false) (rs := res40) (lib40_0 K) lp40_0 trivial (by kernel_rfl) (by kernel_rfl) (by kernel_rfl) (by kernel_rfl) (by kernel_rfl) (fun k x => impll40_0 K k x.1 x.2.1 x.2.2.1 x.2.2.2.1) (fun _ => rfl) (fun k x => q40_0 K (impll40_0 K k) x.1 x.2.1 x.2.2.1 x.2.2.2.1) K
noncomputable def L40_1 (K : Nat) : Lib := mkLib ti [(31, [e31 K]), (63, [e63 K]), (82, [e82 K])] [] 40 [(0, [n40_0 K])]
theorem lib40_1 (K : Nat) : LibOk Try.prog (L40_1 K) := libOk_mk (ents := [(31, [e31 K]), (63, [e63 K]), (82, [e82 K])]) (bodies := []) (loops := [(0, [n40_0 K])]) order tiOk ⟨one_ent (e31_ok K), one_ent (e63_ok K), one_ent (e82_ok K), trivial⟩ trivial Try.func40 rfl lp40 ⟨one_lent (n40_0_ok K), trivial⟩
noncomputable def implf40 (K : Nat) (x1 : (List (Int × (Int × Int)))) : Option ((List Int) × Int) :=
  (ob (implf31 K x1) fun y1 => (bif y1 != (0 : Int) then some (([], y1)) else (ob (implf82 K x1) fun y2 => (ob (impll40_0 K K [] y2 ((↑y2.length : Int)) ((0 : Int))) fun y3 => (ob (implf63 K y3.1) fun y4 => some ((y4, (0 : Int))))))))
theorem q40 (K : Nat) (x1 : (List (Int × (Int × Int)))) : evFnK (α := (List Int) × Int) (L40_1 K) 3 40 Try.f40.results.toList (codeOf Try.f40) ins40 res40 (fun p => (p.1.1, p.1.2.1)) (x1, ()) = implf40 K x1 := by kernel_rfl
noncomputable def e40 (K : Nat) : Ent := ⟨ins40, res40, (List Int) × Int, fun x => implf40 K x.1, fun _ => (fun y => ((y.1, y.2, ()), (()))), false⟩
theorem e40_ok (K : Nat) : EntOk Try.prog 40 (e40 K) := entOk_k (ins := ins40) (rs := res40) (α := (List Int) × Int) (lib40_1 K) (d := 3) Try.func40 rfl (by kernel_rfl) (by kernel_rfl) (by kernel_rfl) (fun x => implf40 K x.1) (fun p => (p.1.1, p.1.2.1)) (fun y => ((y.1, y.2, ()), (()))) (fun _ => rfl) (fun x => q40 K x.1)

/-! diaphone/watch.paid -/
abbrev ins85 : Fs := [(.dat (.pr (.int .i64) (.pr (.int .i64) (.int .i64))), false), (.dat (.sl (.pr (.int .i64) (.int .i64))), false)]
abbrev res85 : Sh := .dat (.int .i64)
theorem lp85 : loopsIn (codeOf Try.f85) 0 = [(0, loopOf 0 (codeOf Try.f85))] := by kernel_rfl
noncomputable def L85_0 (K : Nat) : Lib := mkLib ti [(88, [e88 K])] [] 85 []
theorem lib85_0 (K : Nat) : LibOk Try.prog (L85_0 K) := libOk_mk (ents := [(88, [e88 K])]) (bodies := []) (loops := []) order tiOk ⟨one_ent (e88_ok K), trivial⟩ trivial Try.func85 rfl lp85 ⟨no_lent, trivial⟩
abbrev i85_0 : Fs := [(.box (.dat (.pr (.int Go.IntKind.i64) (.pr (.int Go.IntKind.i64) (.int Go.IntKind.i64)))), false), (.dat (.int Go.IntKind.i64), true), (.dat (.sl (.pr (.int Go.IntKind.i64) (.int Go.IntKind.i64))), false), (.dat (.int Go.IntKind.i64), false), (.dat (.int Go.IntKind.i64), true)]
noncomputable def implb85_0 (K : Nat) (rc : (Int × (Int × Int)) → Int → (List (Int × Int)) → Int → Int → Option (Int × Int × Unit)) (x1 : (Int × (Int × Int))) (x2 : Int) (x3 : (List (Int × Int))) (x4 : Int) (x5 : Int) : Option (Int × Int × Unit) :=
  (bif decide (x5 < x4) then (if (0 : Int) ≤ x5 ∧ x5 < (↑x3.length : Int) then (ob (implf88 K x1 (x3.getD x5.toNat ((0 : Int), (0 : Int))).1) fun y1 => (bif y1 then (rc x1 (IntKind.i64.wrap (x2 + (x3.getD x5.toNat ((0 : Int), (0 : Int))).2)) x3 x4 (IntKind.i64.wrap (x5 + (1 : Int)))) else (rc x1 x2 x3 x4 (IntKind.i64.wrap (x5 + (1 : Int)))))) else none) else some ((x2, x5, ())))
noncomputable def impll85_0 (K : Nat) : Nat → (Int × (Int × Int)) → Int → (List (Int × Int)) → Int → Int → Option (Int × Int × Unit)
  | 0, _, _, _, _, _ => none
  | k + 1, x1, x2, x3, x4, x5 => implb85_0 K (impll85_0 K k) x1 x2 x3 x4 x5
noncomputable def n85_0 (K : Nat) : Lent := ⟨[2, 5, 8, 9, 10], i85_0, [11, 12, 13, 7, 14, 15, 16, 17, 18, 19, 20, 21, 22], [0], false, res85, fun x => impll85_0 K K x.1 x.2.1 x.2.2.1 x.2.2.2.1 x.2.2.2.2.1, []⟩
theorem q85_0 (K : Nat) (rc : (Int × (Int × Int)) → Int → (List (Int × Int)) → Int → Int → Option (Int × Int × Unit)) (x1 : (Int × (Int × Int))) (x2 : Int) (x3 : (List (Int × Int))) (x4 : Int) (x5 : Int) : evLoop (L85_0 K) 3 85 Try.f85.results.toList (loopOf 0 (codeOf Try.f85)) 0 [2, 5, 8, 9, 10] [] i85_0 [0] false res85 (fun x => rc x.1 x.2.1 x.2.2.1 x.2.2.2.1 x.2.2.2.2.1) (x1, x2, x3, x4, x5, ()) = implb85_0 K rc x1 x2 x3 x4 x5 := by kernel_rfl
theorem lp85_0 : loopsIn (loopOf 0 (codeOf Try.f85)) 0 = [] := by kernel_rfl
theorem n85_0_ok (K : Nat) : LentOk Try.prog Try.f85 (loopOf 0 (codeOf Try.f85)) (n85_0 K) := lentOk_k (slots := [2, 5, 8, 9, 10]) (ali := []) (ins := i85_0) (writes := [11, 12, 13, 7, 14, 15, 16, 17, 18, 19, 20, 21, 22]) (exits := [0]) (rets := false) (rs := res85) (lib85_0 K) lp85_0 trivial (by kernel_rfl) (by kernel_rfl) (by kernel_rfl) (by kernel_rfl) (by kernel_rfl) (fun k x => impll85_0 K k x.1 x.2.1 x.2.2.1 x.2.2.2.1 x.2.2.2.2.1) (fun _ => rfl) (fun k x => q85_0 K (impll85_0 K k) x.1 x.2.1 x.2.2.1 x.2.2.2.1 x.2.2.2.2.1) K
noncomputable def L85_1 (K : Nat) : Lib := mkLib ti [(88, [e88 K])] [] 85 [(0, [n85_0 K])]
theorem lib85_1 (K : Nat) : LibOk Try.prog (L85_1 K) := libOk_mk (ents := [(88, [e88 K])]) (bodies := []) (loops := [(0, [n85_0 K])]) order tiOk ⟨one_ent (e88_ok K), trivial⟩ trivial Try.func85 rfl lp85 ⟨one_lent (n85_0_ok K), trivial⟩
noncomputable def implf85 (K : Nat) (x1 : (Int × (Int × Int))) (x2 : (List (Int × Int))) : Option (Int) :=
  (ob (impll85_0 K K x1 ((0 : Int)) x2 ((↑x2.length : Int)) ((0 : Int))) fun y1 => some (y1.1))
theorem q85 (K : Nat) (x1 : (Int × (Int × Int))) (x2 : (List (Int × Int))) : evFnK (α := Int) (L85_1 K) 3 85 Try.f85.results.toList (codeOf Try.f85) ins85 res85 (fun p => p.1) (x1, x2, ()) = implf85 K x1 x2 := by kernel_rfl
noncomputable def e85 (K : Nat) : Ent := ⟨ins85, res85, Int, fun x => implf85 K x.1 x.2.1, fun _ => (fun y => (y, (()))), false⟩
theorem e85_ok (K : Nat) : EntOk Try.prog 85 (e85 K) := entOk_k (ins := ins85) (rs := res85) (α := Int) (lib85_1 K) (d := 3) Try.func85 rfl (by kernel_rfl) (by kernel_rfl) (by kernel_rfl) (fun x => implf85 K x.1 x.2.1) (fun p => p.1) (fun y => (y, (()))) (fun _ => rfl) (fun x => q85 K x.1 x.2.1)

/-! diaphone/watch.Posts -/
abbrev ins41 : Fs := [(.dat (.sl (.pr (.int .i64) (.pr (.int .i64) (.int .i64)))), false)]
abbrev res41 : Sh := .cons (.own (.pr (.int .i64) (.int .i64))) (.cons (.dat (.int .i64)) (.un))
theorem lp41 : loopsIn (codeOf Try.f41) 0 = [(0, loopOf 0 (codeOf Try.f41))] := by kernel_rfl
noncomputable def L41_0 (K : Nat) : Lib := mkLib ti [(31, [e31 K]), (67, [e67a K, e67b K]), (94, [e94 K]), (95, [e95 K]), (85, [e85 K])] [(70, Try.f70)] 41 []
theorem lib41_0 (K : Nat) : LibOk Try.prog (L41_0 K) := libOk_mk (ents := [(31, [e31 K]), (67, [e67a K, e67b K]), (94, [e94 K]), (95, [e95 K]), (85, [e85 K])]) (bodies := [(70, Try.f70)]) (loops := []) order tiOk ⟨one_ent (e31_ok K), more_ent (e67a_ok K) (one_ent (e67b_ok K)), one_ent (e94_ok K), one_ent (e95_ok K), one_ent (e85_ok K), trivial⟩ ⟨bod70, trivial⟩ Try.func41 rfl lp41 ⟨no_lent, trivial⟩
abbrev i41_0 : Fs := [(.own (.pr (.int .i64) (.int .i64)), true), (.dat (.sl (.pr (.pr (.int Go.IntKind.i64) (.pr (.int Go.IntKind.i64) (.int Go.IntKind.i64))) (.int Go.IntKind.i64))), false), (.dat (.int Go.IntKind.i64), false), (.dat (.int Go.IntKind.i64), true)]
noncomputable def implb41_0 (K : Nat) (rc : (List (Int × Int)) → (List ((Int × (Int × Int)) × Int)) → Int → Int → Option ((List (Int × Int)) × Int × Unit)) (x1 : (List (Int × Int))) (x2 : (List ((Int × (Int × Int)) × Int))) (x3 : Int) (x4 : Int) : Option ((List (Int × Int)) × Int × Unit) :=
  (bif decide (x4 < x3) then (if (0 : Int) ≤ x4 ∧ x4 < (↑x2.length : Int) then (ob (implf85 K (x2.getD x4.toNat (((0 : Int), (0 : Int), (0 : Int)), (0 : Int))).1 x1) fun y1 => (bif decide (IntKind.i64.wrap ((x2.getD x4.toNat (((0 : Int), (0 : Int), (0 : Int)), (0 : Int))).1.2.2 - y1) > (0 : Int)) then (if (x1.length + ((List.replicate 1 ((0 : Int), (0 : Int))).set 0 (IntKind.i64.wrap ((x2.getD x4.toNat (((0 : Int), (0 : Int), (0 : Int)), (0 : Int))).1.2.1 - (1 : Int)), IntKind.i64.wrap ((x2.getD x4.toNat (((0 : Int), (0 : Int), (0 : Int)), (0 : Int))).1.2.2 - y1))).length) * 16 ≤ 140737488355328 then (rc (x1 ++ (List.replicate 1 ((0 : Int), (0 : Int))).set 0 (IntKind.i64.wrap ((x2.getD x4.toNat (((0 : Int), (0 : Int), (0 : Int)), (0 : Int))).1.2.1 - (1 : Int)), IntKind.i64.wrap ((x2.getD x4.toNat (((0 : Int), (0 : Int), (0 : Int)), (0 : Int))).1.2.2 - y1))) x2 x3 (IntKind.i64.wrap (x4 + (1 : Int)))) else none) else (rc x1 x2 x3 (IntKind.i64.wrap (x4 + (1 : Int)))))) else none) else some ((x1, x4, ())))
noncomputable def impll41_0 (K : Nat) : Nat → (List (Int × Int)) → (List ((Int × (Int × Int)) × Int)) → Int → Int → Option ((List (Int × Int)) × Int × Unit)
  | 0, _, _, _, _ => none
  | k + 1, x1, x2, x3, x4 => implb41_0 K (impll41_0 K k) x1 x2 x3 x4
noncomputable def n41_0 (K : Nat) : Lent := ⟨[5, 15, 16, 17], i41_0, [18, 19, 20, 7, 21, 22, 23, 24, 25, 26, 27, 28, 8, 29, 30, 31, 32, 33, 34, 35, 36, 37, 38, 39, 40], [0], false, res41, fun x => impll41_0 K K x.1 x.2.1 x.2.2.1 x.2.2.2.1, []⟩
theorem q41_0 (K : Nat) (rc : (List (Int × Int)) → (List ((Int × (Int × Int)) × Int)) → Int → Int → Option ((List (Int × Int)) × Int × Unit)) (x1 : (List (Int × Int))) (x2 : (List ((Int × (Int × Int)) × Int))) (x3 : Int) (x4 : Int) : evLoop (L41_0 K) 3 41 Try.f41.results.toList (loopOf 0 (codeOf Try.f41)) 0 [5, 15, 16, 17] [] i41_0 [0] false res41 (fun x => rc x.1 x.2.1 x.2.2.1 x.2.2.2.1) (x1, x2, x3, x4, ()) = implb41_0 K rc x1 x2 x3 x4 := by kernel_rfl
theorem lp41_0 : loopsIn (loopOf 0 (codeOf Try.f41)) 0 = [] := by kernel_rfl
theorem n41_0_ok (K : Nat) : LentOk Try.prog Try.f41 (loopOf 0 (codeOf Try.f41)) (n41_0 K) := lentOk_k (slots := [5, 15, 16, 17]) (ali := []) (ins := i41_0) (writes := [18, 19, 20, 7, 21, 22, 23, 24, 25, 26, 27, 28, 8, 29, 30, 31, 32, 33, 34, 35, 36, 37, 38, 39, 40]) (exits := [0]) (rets := false) (rs := res41) (lib41_0 K) lp41_0 trivial (by kernel_rfl) (by kernel_rfl) (by kernel_rfl) (by kernel_rfl) (by kernel_rfl) (fun k x => impll41_0 K k x.1 x.2.1 x.2.2.1 x.2.2.2.1) (fun _ => rfl) (fun k x => q41_0 K (impll41_0 K k) x.1 x.2.1 x.2.2.1 x.2.2.2.1) K
noncomputable def L41_1 (K : Nat) : Lib := mkLib ti [(31, [e31 K]), (67, [e67a K, e67b K]), (94, [e94 K]), (95, [e95 K]), (85, [e85 K])] [(70, Try.f70)] 41 [(0, [n41_0 K])]
theorem lib41_1 (K : Nat) : LibOk Try.prog (L41_1 K) := libOk_mk (ents := [(31, [e31 K]), (67, [e67a K, e67b K]), (94, [e94 K]), (95, [e95 K]), (85, [e85 K])]) (bodies := [(70, Try.f70)]) (loops := [(0, [n41_0 K])]) order tiOk ⟨one_ent (e31_ok K), more_ent (e67a_ok K) (one_ent (e67b_ok K)), one_ent (e94_ok K), one_ent (e95_ok K), one_ent (e85_ok K), trivial⟩ ⟨bod70, trivial⟩ Try.func41 rfl lp41 ⟨one_lent (n41_0_ok K), trivial⟩
noncomputable def implf41 (K : Nat) (x1 : (List (Int × (Int × Int)))) : Option ((List (Int × Int)) × Int) :=
  (ob (implf31 K x1) fun y1 => (bif y1 != (0 : Int) then some (([], y1)) else (ob (implf67b K x1 ()) fun y2 => (ob (impll41_0 K K [] y2 ((↑y2.length : Int)) ((0 : Int))) fun y3 => some ((y3.1, (0 : Int)))))))
theorem q41 (K : Nat) (x1 : (List (Int × (Int × Int)))) : evFnK (α := (List (Int × Int)) × Int) (L41_1 K) 3 41 Try.f41.results.toList (codeOf Try.f41) ins41 res41 (fun p => (p.1.1, p.1.2.1)) (x1, ()) = implf41 K x1 := by kernel_rfl
noncomputable def e41 (K : Nat) : Ent := ⟨ins41, res41, (List (Int × Int)) × Int, fun x => implf41 K x.1, fun _ => (fun y => ((y.1, y.2, ()), (()))), false⟩
theorem e41_ok (K : Nat) : EntOk Try.prog 41 (e41 K) := entOk_k (ins := ins41) (rs := res41) (α := (List (Int × Int)) × Int) (lib41_1 K) (d := 3) Try.func41 rfl (by kernel_rfl) (by kernel_rfl) (by kernel_rfl) (fun x => implf41 K x.1) (fun p => (p.1.1, p.1.2.1)) (fun y => ((y.1, y.2, ()), (()))) (fun _ => rfl) (fun x => q41 K x.1)

/-! diaphone/watch.isSet -/
abbrev ins86 : Fs := [(.dat (.sl (.int .i64)), false), (.dat (.int .i64), false)]
abbrev res86 : Sh := .dat (.bool)
theorem lp86 : loopsIn (codeOf Try.f86) 0 = [(0, loopOf 0 (codeOf Try.f86))] := by kernel_rfl
noncomputable def L86_0 (K : Nat) : Lib := mkLib ti [(60, [e60 K])] [] 86 []
theorem lib86_0 (K : Nat) : LibOk Try.prog (L86_0 K) := libOk_mk (ents := [(60, [e60 K])]) (bodies := []) (loops := []) order tiOk ⟨one_ent (e60_ok K), trivial⟩ trivial Try.func86 rfl lp86 ⟨no_lent, trivial⟩
abbrev i86_0 : Fs := [(.dat (.sl (.int Go.IntKind.i64)), false), (.dat (.int Go.IntKind.i64), false), (.dat (.sl (.int Go.IntKind.i64)), false), (.dat (.int Go.IntKind.i64), false), (.dat (.int Go.IntKind.i64), true)]
noncomputable def implb86_0 (K : Nat) (rc : (List Int) → Int → (List Int) → Int → Int → Option (Sum (Int × Unit) Bool)) (x1 : (List Int)) (x2 : Int) (x3 : (List Int)) (x4 : Int) (x5 : Int) : Option (Sum (Int × Unit) Bool) :=
  (bif decide (x5 < x4) then (if (0 : Int) ≤ x5 ∧ x5 < (↑x3.length : Int) then (ob (implf60 K (x3.getD x5.toNat ((0 : Int))) ((0 : Int)) x2) fun y1 => (bif !y1 then some (Sum.inr false) else (bif decide (x5 > (0 : Int)) then (if (0 : Int) ≤ IntKind.i64.wrap (x5 - (1 : Int)) ∧ IntKind.i64.wrap (x5 - (1 : Int)) < (↑x1.length : Int) then (bif decide (x1.getD (IntKind.i64.wrap (x5 - (1 : Int))).toNat ((0 : Int)) ≥ x3.getD x5.toNat ((0 : Int))) then some (Sum.inr false) else (rc x1 x2 x3 x4 (IntKind.i64.wrap (x5 + (1 : Int))))) else none) else (rc x1 x2 x3 x4 (IntKind.i64.wrap (x5 + (1 : Int))))))) else none) else some (Sum.inl (x5, ())))
noncomputable def impll86_0 (K : Nat) : Nat → (List Int) → Int → (List Int) → Int → Int → Option (Sum (Int × Unit) Bool)
  | 0, _, _, _, _, _ => none
  | k + 1, x1, x2, x3, x4, x5 => implb86_0 K (impll86_0 K k) x1 x2 x3 x4 x5
noncomputable def n86_0 (K : Nat) : Lent := ⟨[0, 1, 7, 8, 9], i86_0, [10, 11, 12, 13, 5, 6, 14, 15, 16, 17, 18, 19, 20, 21, 22, 23, 24, 25, 26, 27, 28, 29, 30, 4, 31], [0], true, res86, fun x => impll86_0 K K x.1 x.2.1 x.2.2.1 x.2.2.2.1 x.2.2.2.2.1, []⟩
theorem q86_0 (K : Nat) (rc : (List Int) → Int → (List Int) → Int → Int → Option (Sum (Int × Unit) Bool)) (x1 : (List Int)) (x2 : Int) (x3 : (List Int)) (x4 : Int) (x5 : Int) : evLoop (L86_0 K) 3 86 Try.f86.results.toList (loopOf 0 (codeOf Try.f86)) 0 [0, 1, 7, 8, 9] [] i86_0 [0] true res86 (fun x => rc x.1 x.2.1 x.2.2.1 x.2.2.2.1 x.2.2.2.2.1) (x1, x2, x3, x4, x5, ()) = implb86_0 K rc x1 x2 x3 x4 x5 := by kernel_rfl
theorem lp86_0 : loopsIn (loopOf 0 (codeOf Try.f86)) 0 = [] := by kernel_rfl
theorem n86_0_ok (K : Nat) : LentOk Try.prog Try.f86 (loopOf 0 (codeOf Try.f86)) (n86_0 K) := lentOk_k (slots := [0, 1, 7, 8, 9]) (ali := []) (ins := i86_0) (writes := [10, 11, 12, 13, 5, 6, 14, 15, 16, 17, 18, 19, 20, 21, 22, 23, 24, 25, 26, 27, 28, 29, 30, 4, 31]) (exits := [0]) (rets := true) (rs := res86) (lib86_0 K) lp86_0 trivial (by kernel_rfl) (by kernel_rfl) (by kernel_rfl) (by kernel_rfl) (by kernel_rfl) (fun k x => impll86_0 K k x.1 x.2.1 x.2.2.1 x.2.2.2.1 x.2.2.2.2.1) (fun _ => rfl) (fun k x => q86_0 K (impll86_0 K k) x.1 x.2.1 x.2.2.1 x.2.2.2.1 x.2.2.2.2.1) K
noncomputable def L86_1 (K : Nat) : Lib := mkLib ti [(60, [e60 K])] [] 86 [(0, [n86_0 K])]
theorem lib86_1 (K : Nat) : LibOk Try.prog (L86_1 K) := libOk_mk (ents := [(60, [e60 K])]) (bodies := []) (loops := [(0, [n86_0 K])]) order tiOk ⟨one_ent (e60_ok K), trivial⟩ trivial Try.func86 rfl lp86 ⟨one_lent (n86_0_ok K), trivial⟩
noncomputable def implf86 (K : Nat) (x1 : (List Int)) (x2 : Int) : Option (Bool) :=
  (ob (impll86_0 K K x1 x2 x1 ((↑x1.length : Int)) ((0 : Int))) fun y1 => (match y1 with | .inl y2 => some (true) | .inr y2 => some (y2)))
theorem q86 (K : Nat) (x1 : (List Int)) (x2 : Int) : evFnK (α := Bool) (L86_1 K) 3 86 Try.f86.results.toList (codeOf Try.f86) ins86 res86 (fun p => p.1) (x1, x2, ()) = implf86 K x1 x2 := by kernel_rfl
noncomputable def e86 (K : Nat) : Ent := ⟨ins86, res86, Bool, fun x => implf86 K x.1 x.2.1, fun _ => (fun y => (y, (()))), false⟩
theorem e86_ok (K : Nat) : EntOk Try.prog 86 (e86 K) := entOk_k (ins := ins86) (rs := res86) (α := Bool) (lib86_1 K) (d := 3) Try.func86 rfl (by kernel_rfl) (by kernel_rfl) (by kernel_rfl) (fun x => implf86 K x.1 x.2.1) (fun p => p.1) (fun y => (y, (()))) (fun _ => rfl) (fun x => q86 K x.1 x.2.1)

end Go.Proofs.Ytbojnkcolamneaa
