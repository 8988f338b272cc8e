/- What the functions compute: printed by a program of this claim's author. -/
import Derived.Test.YtbpjodikknbcoaaGreatDoorFp4
set_option maxRecDepth 100000
set_option linter.unusedVariables false
set_option linter.unusedSimpArgs false
namespace Go.Proofs.YtbpjodikknbcoaaGreatDoor
open Go Go.Pv
/-! (*diaphone/station.Station).Audit -/
abbrev ins55a : Fs := [(.box (.dat (.pr (.pr (.int .i32) (.int .u32)) (.pr (.sl (.int .i64)) (.pr (.sl (.int .i64)) (.pr (.pr (.sl (.arr 2 (.int .i64))) (.sl (.int .i64))) (.pr (.int .i64) (.pr (.bool) (.pr (.int .i64) (.pr (.int .i64) (.pr (.int .i64) (.pr (.int .i64) (.pr (.int .i64) (.pr (.int .i64) (.pr (.int .i64) (.pr (.int .i64) (.pr (.int .i64) (.pr (.int .i64) (.sl (.str))))))))))))))))))), false)]
abbrev res55a : Sh := .dat (.bool)
theorem lp55 : loopsIn (codeOf Tryz.f55) 0 = [] := by kernel_rfl
noncomputable def L55a_0 (K : Nat) : Lib := mkLibR ti [(24, [e24a K, e24b K]), (67, [e67 K]), (68, [e68a K, e68b K]), (90, [e90 K]), (91, [e91 K])] [] 55 [] [] [] [] [24]
theorem lib55a_0 (K : Nat) : LibOk Tryz.prog (L55a_0 K) := libOk_mkR (ents := [(24, [e24a K, e24b K]), (67, [e67 K]), (68, [e68a K, e68b K]), (90, [e90 K]), (91, [e91 K])]) (bodies := []) (loops := []) order tiOk ⟨more_ent (e24a_ok K) (one_ent (e24b_ok K)), one_ent (e67_ok K), more_ent (e68a_ok K) (one_ent (e68b_ok K)), one_ent (e90_ok K), one_ent (e91_ok K), trivial⟩ trivial Tryz.func55 rfl lp55 trivial (rngs := []) trivial (frz := []) (opts := []) trivial
noncomputable def implf55a (K : Nat) (x1 : STN) : Option (Bool) :=
  (ob (implf68a K x1) fun y1 => (ob (implf90 K x1) fun y2 => (bif y1.2.2.2.2.2.2.2.2.2.2.1 != IntKind.i64.wrap (y1.2.2.2.1 + IntKind.i64.wrap (y1.2.2.2.2.2.2.1 * y2)) then some (false) else (bif y1.2.2.2.2.2.2.2.2.2.2.2.1 != IntKind.i64.wrap (y1.2.2.2.2.1 + y1.2.2.2.2.2.2.2.2.2.1) then some (false) else (bif decide (y1.2.2.2.2.2.1 > y1.1) then some (false) else (bif decide (IntKind.i64.wrap (y1.2.2.2.2.2.2.1 + y1.2.2.2.2.2.2.2.1) > y1.1) then some (false) else (ob (implf67 K y1.2.2.2.2.2.2.2.2.2.2.2.2) fun y3 => (oel (implf24a K x1.2.1 x1.2.2.1 x1.2.2.2.1 y3) (ob (implf24b K x1.2.1 x1.2.2.1 x1.2.2.2.1 y3) fun y4 => (bif y4.2.2 == (0 : Int) then (ob (implf91 K y4.1.2.2.2.2 y1) fun y5 => some (y5)) else some (false))) fun y6 => (bif y6.2.2 == (0 : Int) then none else some (false))))))))))
theorem q55a (K : Nat) (x1 : STN) : evFnK (α := Bool) (L55a_0 K) 3 55 Tryz.f55.results.toList (codeOf Tryz.f55) ins55a res55a (fun p => p.1) (x1, ()) = implf55a K x1 := by kernel_rfl
noncomputable def e55a (K : Nat) : Ent := ⟨ins55a, res55a, Bool, fun x => implf55a K x.1, fun _ => (fun y => (y, (()))), false⟩
theorem e55a_ok (K : Nat) : EntOk Tryz.prog 55 (e55a K) := entOk_k (ins := ins55a) (rs := res55a) (α := Bool) (lib55a_0 K) (d := 3) Tryz.func55 rfl (by kernel_rfl) (by kernel_rfl) (by kernel_rfl) (fun x => implf55a K x.1) (fun p => p.1) (fun y => (y, (()))) (fun _ => rfl) (fun x => q55a K x.1)

abbrev ins55b : Fs := [(.dat .np, false)]
abbrev res55b : Sh := .dat (.bool)
noncomputable def L55b_0 (K : Nat) : Lib := mkLibR ti [(24, [e24a K, e24b K]), (67, [e67 K]), (68, [e68a K, e68b K]), (90, [e90 K]), (91, [e91 K])] [] 55 [] [] [] [] [24]
theorem lib55b_0 (K : Nat) : LibOk Tryz.prog (L55b_0 K) := libOk_mkR (ents := [(24, [e24a K, e24b K]), (67, [e67 K]), (68, [e68a K, e68b K]), (90, [e90 K]), (91, [e91 K])]) (bodies := []) (loops := []) order tiOk ⟨more_ent (e24a_ok K) (one_ent (e24b_ok K)), one_ent (e67_ok K), more_ent (e68a_ok K) (one_ent (e68b_ok K)), one_ent (e90_ok K), one_ent (e91_ok K), trivial⟩ trivial Tryz.func55 rfl lp55 trivial (rngs := []) trivial (frz := []) (opts := []) trivial
noncomputable def implf55b (K : Nat) (x1 : Unit) : Option (Bool) :=
  some (false)
theorem q55b (K : Nat) (x1 : Unit) : evFnK (α := Bool) (L55b_0 K) 3 55 Tryz.f55.results.toList (codeOf Tryz.f55) ins55b res55b (fun p => p.1) (x1, ()) = implf55b K x1 := by kernel_rfl
noncomputable def e55b (K : Nat) : Ent := ⟨ins55b, res55b, Bool, fun x => implf55b K x.1, fun _ => (fun y => (y, (()))), false⟩
theorem e55b_ok (K : Nat) : EntOk Tryz.prog 55 (e55b K) := entOk_k (ins := ins55b) (rs := res55b) (α := Bool) (lib55b_0 K) (d := 3) Tryz.func55 rfl (by kernel_rfl) (by kernel_rfl) (by kernel_rfl) (fun x => implf55b K x.1) (fun p => p.1) (fun y => (y, (()))) (fun _ => rfl) (fun x => q55b K x.1)

/-! diaphone/relay.states -/
abbrev ins92 : Fs := [(.dat (.pr (.sl (.arr 2 (.int .i64))) (.sl (.int .i64))), false), (.dat (.sl (.int .i64)), false)]
abbrev res92 : Sh := .dat (.int .i64)
theorem lp92 : loopsIn (codeOf Tryz.f92) 0 = [(0, loopOf 0 (codeOf Tryz.f92))] := by kernel_rfl
noncomputable def L92_0 (K : Nat) : Lib := mkLib ti [(87, [e87 K]), (116, [e116 K])] [] 92 []
theorem lib92_0 (K : Nat) : LibOk Tryz.prog (L92_0 K) := libOk_mk (ents := [(87, [e87 K]), (116, [e116 K])]) (bodies := []) (loops := []) order tiOk ⟨one_ent (e87_ok K), one_ent (e116_ok K), trivial⟩ trivial Tryz.func92 rfl lp92 ⟨no_lent, trivial⟩
abbrev i92_0 : Fs := [(.box (.dat (.pr (.sl (.arr 2 (.int Go.IntKind.i64))) (.sl (.int Go.IntKind.i64)))), false), (.dat (.sl (.int Go.IntKind.i64)), false), (.dat (.int Go.IntKind.i64), false), (.dat (.int Go.IntKind.i64), true)]
noncomputable def implb92_0 (K : Nat) (rc : BOX → (List Int) → Int → Int → Option (Sum (Int × Unit) Int)) (x1 : BOX) (x2 : (List Int)) (x3 : Int) (x4 : Int) : Option (Sum (Int × Unit) Int) :=
  (bif decide (x4 < x3) then (if (0 : Int) ≤ x4 ∧ x4 < (↑x2.length : Int) then (ob (implf116 K (x2.getD x4.toNat ((0 : Int))) ((0 : Int)) (IntKind.i64.wrap ((↑x1.1.length : Int) - (1 : Int)))) fun y1 => (bif !y1 then some (Sum.inr ((4 : Int))) else (rc x1 x2 x3 (IntKind.i64.wrap (x4 + (1 : Int)))))) else none) else some (Sum.inl (x4, ())))
noncomputable def impll92_0 (K : Nat) : Nat → BOX → (List Int) → Int → Int → Option (Sum (Int × Unit) Int)
  | 0, _, _, _, _ => none
  | k + 1, x1, x2, x3, x4 => implb92_0 K (impll92_0 K k) x1 x2 x3 x4
noncomputable def n92_0 (K : Nat) : Lent := ⟨[2, 13, 14, 15], i92_0, [16, 17, 18, 7, 19, 20, 21, 22, 23, 24, 25, 4, 26], [0], true, res92, fun x => impll92_0 K K x.1 x.2.1 x.2.2.1 x.2.2.2.1, [], none⟩
theorem q92_0 (K : Nat) (rc : BOX → (List Int) → Int → Int → Option (Sum (Int × Unit) Int)) (x1 : BOX) (x2 : (List Int)) (x3 : Int) (x4 : Int) : evLoop (L92_0 K) 3 92 Tryz.f92.results.toList (loopOf 0 (codeOf Tryz.f92)) 0 [2, 13, 14, 15] [] i92_0 [0] true res92 (fun x => rc x.1 x.2.1 x.2.2.1 x.2.2.2.1) (x1, x2, x3, x4, ()) = implb92_0 K rc x1 x2 x3 x4 := by kernel_rfl
theorem lp92_0 : loopsIn (loopOf 0 (codeOf Tryz.f92)) 0 = [] := by kernel_rfl
theorem n92_0_ok (K : Nat) : LentOk Tryz.prog Tryz.f92 (loopOf 0 (codeOf Tryz.f92)) (n92_0 K) := lentOk_k (slots := [2, 13, 14, 15]) (ali := []) (ins := i92_0) (writes := [16, 17, 18, 7, 19, 20, 21, 22, 23, 24, 25, 4, 26]) (exits := [0]) (rets := true) (rs := res92) (d := 3) (lib92_0 K) lp92_0 trivial (by kernel_rfl) (by kernel_rfl) (by kernel_rfl) (by kernel_rfl) (by kernel_rfl) (fun k x => impll92_0 K k x.1 x.2.1 x.2.2.1 x.2.2.2.1) (fun _ => rfl) (fun k x => q92_0 K (impll92_0 K k) x.1 x.2.1 x.2.2.1 x.2.2.2.1) K
noncomputable def L92_1 (K : Nat) : Lib := mkLib ti [(87, [e87 K]), (116, [e116 K])] [] 92 [(0, [n92_0 K])]
theorem lib92_1 (K : Nat) : LibOk Tryz.prog (L92_1 K) := libOk_mk (ents := [(87, [e87 K]), (116, [e116 K])]) (bodies := []) (loops := [(0, [n92_0 K])]) order tiOk ⟨one_ent (e87_ok K), one_ent (e116_ok K), trivial⟩ trivial Tryz.func92 rfl lp92 ⟨one_lent (n92_0_ok K), trivial⟩
noncomputable def implf92 (K : Nat) (x1 : BOX) (x2 : (List Int)) : Option (Int) :=
  (ob (implf87 K x1) fun y1 => (bif y1 != (0 : Int) then some (y1) else (ob (impll92_0 K K x1 x2 ((↑x2.length : Int)) ((0 : Int))) fun y2 => (match y2 with | .inl y3 => some ((0 : Int)) | .inr y3 => some (y3)))))
theorem q92 (K : Nat) (x1 : BOX) (x2 : (List Int)) : evFnK (α := Int) (L92_1 K) 3 92 Tryz.f92.results.toList (codeOf Tryz.f92) ins92 res92 (fun p => p.1) (x1, x2, ()) = implf92 K x1 x2 := by kernel_rfl
noncomputable def e92 (K : Nat) : Ent := ⟨ins92, res92, Int, fun x => implf92 K x.1 x.2.1, fun _ => (fun y => (y, (()))), false⟩
theorem e92_ok (K : Nat) : EntOk Tryz.prog 92 (e92 K) := entOk_k (ins := ins92) (rs := res92) (α := Int) (lib92_1 K) (d := 3) Tryz.func92 rfl (by kernel_rfl) (by kernel_rfl) (by kernel_rfl) (fun x => implf92 K x.1 x.2.1) (fun p => p.1) (fun y => (y, (()))) (fun _ => rfl) (fun x => q92 K x.1 x.2.1)

/-! diaphone/relay.renamed -/
abbrev ins93 : Fs := [(.dat (.pr (.sl (.arr 2 (.int .i64))) (.sl (.int .i64))), false), (.dat (.sl (.int .i64)), false)]
abbrev res93 : Sh := .pr (.own (.arr 2 (.int .i64))) (.own (.int .i64))
theorem lp93 : loopsIn (codeOf Tryz.f93) 0 = [(0, loopOf 0 (codeOf Tryz.f93))] := by kernel_rfl
noncomputable def L93_0 (K : Nat) : Lib := mkLib ti [] [] 93 []
theorem lib93_0 (K : Nat) : LibOk Tryz.prog (L93_0 K) := libOk_mk (ents := []) (bodies := []) (loops := []) order tiOk trivial trivial Tryz.func93 rfl lp93 ⟨no_lent, trivial⟩
abbrev i93_0 : Fs := [(.dat (.sl (.int Go.IntKind.i64)), false), (.box (.dat (.pr (.sl (.arr 2 (.int Go.IntKind.i64))) (.sl (.int Go.IntKind.i64)))), false), (.box (.pr (.own (.arr 2 (.int .i64))) (.own (.int .i64))), true), (.box (.pr (.own (.arr 2 (.int Go.IntKind.i64))) (.own (.int Go.IntKind.i64))), true), (.dat (.sl (.arr 2 (.int Go.IntKind.i64))), false), (.dat (.int Go.IntKind.i64), false), (.dat (.int Go.IntKind.i64), true)]
noncomputable def implb93_0 (K : Nat) (rc : (List Int) → BOX → BOX → BOX → (List (List Int)) → Int → Int → Option (BOX × BOX × Int × Unit)) (x1 : (List Int)) (x2 : BOX) (x3 : BOX) (x4 : BOX) (x5 : (List (List Int))) (x6 : Int) (x7 : Int) : Option (BOX × BOX × Int × Unit) :=
  (bif decide (x7 < x6) then (if (0 : Int) ≤ x7 ∧ x7 < (↑x5.length : Int) then (if (0 : Int) ≤ x7 ∧ x7 < (↑x1.length : Int) then (if (0 : Int) ≤ (x5.getD x7.toNat (List.replicate 2 ((0 : Int)))).getD (0) ((0 : Int)) ∧ (x5.getD x7.toNat (List.replicate 2 ((0 : Int)))).getD (0) ((0 : Int)) < (↑x1.length : Int) then (if (0 : Int) ≤ (x5.getD x7.toNat (List.replicate 2 ((0 : Int)))).getD (1) ((0 : Int)) ∧ (x5.getD x7.toNat (List.replicate 2 ((0 : Int)))).getD (1) ((0 : Int)) < (↑x1.length : Int) then (if (0 : Int) ≤ x1.getD x7.toNat ((0 : Int)) ∧ x1.getD x7.toNat ((0 : Int)) < (↑x4.1.length : Int) then (if (0 : Int) ≤ x7 ∧ x7 < (↑x1.length : Int) then (if (0 : Int) ≤ x7 ∧ x7 < (↑x2.2.length : Int) then (if (0 : Int) ≤ x1.getD x7.toNat ((0 : Int)) ∧ x1.getD x7.toNat ((0 : Int)) < (↑x4.2.length : Int) then (rc x1 x2 (x3.1, x3.2) (x4.1.set (x1.getD x7.toNat ((0 : Int))).toNat (((List.replicate 2 ((0 : Int))).set 0 (x1.getD ((x5.getD x7.toNat (List.replicate 2 ((0 : Int)))).getD (0) ((0 : Int))).toNat ((0 : Int)))).set 1 (x1.getD ((x5.getD x7.toNat (List.replicate 2 ((0 : Int)))).getD (1) ((0 : Int))).toNat ((0 : Int)))), x4.2.set (x1.getD x7.toNat ((0 : Int))).toNat (x2.2.getD x7.toNat ((0 : Int)))) x5 x6 (IntKind.i64.wrap (x7 + (1 : Int)))) else none) else none) else none) else none) else none) else none) else none) else none) else some (((x3.1, x3.2), (x4.1, x4.2), x7, ())))
noncomputable def impll93_0 (K : Nat) : Nat → (List Int) → BOX → BOX → BOX → (List (List Int)) → Int → Int → Option (BOX × BOX × Int × Unit)
  | 0, _, _, _, _, _, _, _ => none
  | k + 1, x1, x2, x3, x4, x5, x6, x7 => implb93_0 K (impll93_0 K k) x1 x2 x3 x4 x5 x6 x7
noncomputable def n93_0 (K : Nat) : Lent := ⟨[1, 2, 4, 5, 18, 19, 20], i93_0, [21, 22, 23, 24, 7, 6, 25, 26, 27, 28, 29, 30, 31, 32, 33, 34, 35, 36, 37, 38, 39, 40, 41, 42, 43, 44, 45, 46, 47, 48, 49, 50, 51, 52, 53, 54, 55], [0], false, res93, fun x => impll93_0 K K x.1 x.2.1 x.2.2.1 x.2.2.2.1 x.2.2.2.2.1 x.2.2.2.2.2.1 x.2.2.2.2.2.2.1, [], none⟩
theorem q93_0 (K : Nat) (rc : (List Int) → BOX → BOX → BOX → (List (List Int)) → Int → Int → Option (BOX × BOX × Int × Unit)) (x1 : (List Int)) (x2 : BOX) (x3 : BOX) (x4 : BOX) (x5 : (List (List Int))) (x6 : Int) (x7 : Int) : evLoop (L93_0 K) 3 93 Tryz.f93.results.toList (loopOf 0 (codeOf Tryz.f93)) 0 [1, 2, 4, 5, 18, 19, 20] [] i93_0 [0] false res93 (fun x => rc x.1 x.2.1 x.2.2.1 x.2.2.2.1 x.2.2.2.2.1 x.2.2.2.2.2.1 x.2.2.2.2.2.2.1) (x1, x2, x3, x4, x5, x6, x7, ()) = implb93_0 K rc x1 x2 x3 x4 x5 x6 x7 := by kernel_rfl
theorem lp93_0 : loopsIn (loopOf 0 (codeOf Tryz.f93)) 0 = [] := by kernel_rfl
theorem n93_0_ok (K : Nat) : LentOk Tryz.prog Tryz.f93 (loopOf 0 (codeOf Tryz.f93)) (n93_0 K) := lentOk_k (slots := [1, 2, 4, 5, 18, 19, 20]) (ali := []) (ins := i93_0) (writes := [21, 22, 23, 24, 7, 6, 25, 26, 27, 28, 29, 30, 31, 32, 33, 34, 35, 36, 37, 38, 39, 40, 41, 42, 43, 44, 45, 46, 47, 48, 49, 50, 51, 52, 53, 54, 55]) (exits := [0]) (rets := false) (rs := res93) (d := 3) (lib93_0 K) lp93_0 trivial (by kernel_rfl) (by kernel_rfl) (by kernel_rfl) (by kernel_rfl) (by kernel_rfl) (fun k x => impll93_0 K k x.1 x.2.1 x.2.2.1 x.2.2.2.1 x.2.2.2.2.1 x.2.2.2.2.2.1 x.2.2.2.2.2.2.1) (fun _ => rfl) (fun k x => q93_0 K (impll93_0 K k) x.1 x.2.1 x.2.2.1 x.2.2.2.1 x.2.2.2.2.1 x.2.2.2.2.2.1 x.2.2.2.2.2.2.1) K
noncomputable def L93_1 (K : Nat) : Lib := mkLib ti [] [] 93 [(0, [n93_0 K])]
theorem lib93_1 (K : Nat) : LibOk Tryz.prog (L93_1 K) := libOk_mk (ents := []) (bodies := []) (loops := [(0, [n93_0 K])]) order tiOk trivial trivial Tryz.func93 rfl lp93 ⟨one_lent (n93_0_ok K), trivial⟩
noncomputable def implf93 (K : Nat) (x1 : BOX) (x2 : (List Int)) : Option (BOX) :=
  (if (0 : Int) ≤ (↑x1.1.length : Int) ∧ (↑x1.1.length : Int) * (16 : Int) ≤ (140737488355328 : Int) then (if (0 : Int) ≤ (↑x1.1.length : Int) ∧ (↑x1.1.length : Int) * (8 : Int) ≤ (140737488355328 : Int) then (ob (impll93_0 K K x2 x1 ([], []) (List.replicate (↑x1.1.length : Int).toNat (List.replicate 2 ((0 : Int))), List.replicate (↑x1.1.length : Int).toNat ((0 : Int))) x1.1 ((↑x1.1.length : Int)) ((0 : Int))) fun y1 => some ((y1.2.1.1, y1.2.1.2))) else none) else none)
theorem q93 (K : Nat) (x1 : BOX) (x2 : (List Int)) : evFnK (α := BOX) (L93_1 K) 3 93 Tryz.f93.results.toList (codeOf Tryz.f93) ins93 res93 (fun p => p.1) (x1, x2, ()) = implf93 K x1 x2 := by kernel_rfl
noncomputable def e93 (K : Nat) : Ent := ⟨ins93, res93, BOX, fun x => implf93 K x.1 x.2.1, fun _ => (fun y => (y, (()))), false⟩
theorem e93_ok (K : Nat) : EntOk Tryz.prog 93 (e93 K) := entOk_k (ins := ins93) (rs := res93) (α := BOX) (lib93_1 K) (d := 3) Tryz.func93 rfl (by kernel_rfl) (by kernel_rfl) (by kernel_rfl) (fun x => implf93 K x.1 x.2.1) (fun p => p.1) (fun y => (y, (()))) (fun _ => rfl) (fun x => q93 K x.1 x.2.1)

/-! diaphone/relay.From -/
abbrev ins61 : Fs := [(.dat (.pr (.sl (.arr 2 (.int .i64))) (.sl (.int .i64))), false), (.dat (.int .i64), false)]
abbrev res61 : Sh := .cons (.pr (.own (.arr 2 (.int .i64))) (.own (.int .i64))) (.cons (.dat (.int .i64)) (.un))
theorem lp61 : loopsIn (codeOf Tryz.f61) 0 = [(0, loopOf 0 (codeOf Tryz.f61))] := by kernel_rfl
noncomputable def L61_0 (K : Nat) : Lib := mkLib ti [(92, [e92 K]), (93, [e93 K])] [] 61 []
theorem lib61_0 (K : Nat) : LibOk Tryz.prog (L61_0 K) := libOk_mk (ents := [(92, [e92 K]), (93, [e93 K])]) (bodies := []) (loops := []) order tiOk ⟨one_ent (e92_ok K), one_ent (e93_ok K), trivial⟩ trivial Tryz.func61 rfl lp61 ⟨no_lent, trivial⟩
abbrev i61_0 : Fs := [(.dat (.int Go.IntKind.i64), false), (.box (.dat (.pr (.sl (.arr 2 (.int Go.IntKind.i64))) (.sl (.int Go.IntKind.i64)))), false), (.box (.pr (.own (.arr 2 (.int .i64))) (.own (.int .i64))), true), (.own (.int Go.IntKind.i64), true), (.dat (.int Go.IntKind.i64), false), (.dat (.int Go.IntKind.i64), true)]
noncomputable def implb61_0 (K : Nat) (rc : Int → BOX → BOX → (List Int) → Int → Int → Option (BOX × (List Int) × Int × Unit)) (x1 : Int) (x2 : BOX) (x3 : BOX) (x4 : (List Int)) (x5 : Int) (x6 : Int) : Option (BOX × (List Int) × Int × Unit) :=
  (bif decide (x6 < x5) then (if (0 : Int) ≤ x6 ∧ x6 < (↑x4.length : Int) then (rc x1 x2 (x3.1, x3.2) (x4.set x6.toNat x6) x5 (IntKind.i64.wrap (x6 + (1 : Int)))) else none) else some (((x3.1, x3.2), x4, x6, ())))
noncomputable def impll61_0 (K : Nat) : Nat → Int → BOX → BOX → (List Int) → Int → Int → Option (BOX × (List Int) × Int × Unit)
  | 0, _, _, _, _, _, _ => none
  | k + 1, x1, x2, x3, x4, x5, x6 => implb61_0 K (impll61_0 K k) x1 x2 x3 x4 x5 x6
noncomputable def n61_0 (K : Nat) : Lent := ⟨[1, 2, 4, 7, 22, 23], i61_0, [24, 25, 8, 26, 27, 28, 29, 30], [0], false, res61, fun x => impll61_0 K K x.1 x.2.1 x.2.2.1 x.2.2.2.1 x.2.2.2.2.1 x.2.2.2.2.2.1, [], none⟩
theorem q61_0 (K : Nat) (rc : Int → BOX → BOX → (List Int) → Int → Int → Option (BOX × (List Int) × Int × Unit)) (x1 : Int) (x2 : BOX) (x3 : BOX) (x4 : (List Int)) (x5 : Int) (x6 : Int) : evLoop (L61_0 K) 3 61 Tryz.f61.results.toList (loopOf 0 (codeOf Tryz.f61)) 0 [1, 2, 4, 7, 22, 23] [] i61_0 [0] false res61 (fun x => rc x.1 x.2.1 x.2.2.1 x.2.2.2.1 x.2.2.2.2.1 x.2.2.2.2.2.1) (x1, x2, x3, x4, x5, x6, ()) = implb61_0 K rc x1 x2 x3 x4 x5 x6 := by kernel_rfl
theorem lp61_0 : loopsIn (loopOf 0 (codeOf Tryz.f61)) 0 = [] := by kernel_rfl
theorem n61_0_ok (K : Nat) : LentOk Tryz.prog Tryz.f61 (loopOf 0 (codeOf Tryz.f61)) (n61_0 K) := lentOk_k (slots := [1, 2, 4, 7, 22, 23]) (ali := []) (ins := i61_0) (writes := [24, 25, 8, 26, 27, 28, 29, 30]) (exits := [0]) (rets := false) (rs := res61) (d := 3) (lib61_0 K) lp61_0 trivial (by kernel_rfl) (by kernel_rfl) (by kernel_rfl) (by kernel_rfl) (by kernel_rfl) (fun k x => impll61_0 K k x.1 x.2.1 x.2.2.1 x.2.2.2.1 x.2.2.2.2.1 x.2.2.2.2.2.1) (fun _ => rfl) (fun k x => q61_0 K (impll61_0 K k) x.1 x.2.1 x.2.2.1 x.2.2.2.1 x.2.2.2.2.1 x.2.2.2.2.2.1) K
noncomputable def L61_1 (K : Nat) : Lib := mkLib ti [(92, [e92 K]), (93, [e93 K])] [] 61 [(0, [n61_0 K])]
theorem lib61_1 (K : Nat) : LibOk Tryz.prog (L61_1 K) := libOk_mk (ents := [(92, [e92 K]), (93, [e93 K])]) (bodies := []) (loops := [(0, [n61_0 K])]) order tiOk ⟨one_ent (e92_ok K), one_ent (e93_ok K), trivial⟩ trivial Tryz.func61 rfl lp61 ⟨one_lent (n61_0_ok K), trivial⟩
noncomputable def implf61 (K : Nat) (x1 : BOX) (x2 : Int) : Option (BOX × Int) :=
  (ob (implf92 K x1 ((List.replicate 1 ((0 : Int))).set 0 x2)) fun y1 => (bif y1 != (0 : Int) then some ((([], []), y1)) else (if (0 : Int) ≤ (↑x1.1.length : Int) ∧ (↑x1.1.length : Int) * (8 : Int) ≤ (140737488355328 : Int) then (ob (impll61_0 K K x2 x1 ([], []) (List.replicate (↑x1.1.length : Int).toNat ((0 : Int))) (Int.ofNat (List.replicate (↑x1.1.length : Int).toNat ((0 : Int))).length) ((0 : Int))) fun y2 => (if (0 : Int) ≤ (0 : Int) ∧ (0 : Int) < (↑y2.2.1.length : Int) then (if (0 : Int) ≤ x2 ∧ x2 < (↑(y2.2.1.set (0) x2).length : Int) then (ob (implf93 K x1 ((y2.2.1.set (0) x2).set x2.toNat ((0 : Int)))) fun y3 => some (((y3.1, y3.2), (0 : Int)))) else none) else none)) else none)))
theorem q61 (K : Nat) (x1 : BOX) (x2 : Int) : evFnK (α := BOX × Int) (L61_1 K) 3 61 Tryz.f61.results.toList (codeOf Tryz.f61) ins61 res61 (fun p => (p.1.1, p.1.2.1)) (x1, x2, ()) = implf61 K x1 x2 := by kernel_rfl
noncomputable def e61 (K : Nat) : Ent := ⟨ins61, res61, BOX × Int, fun x => implf61 K x.1 x.2.1, fun _ => (fun y => ((y.1, y.2, ()), (()))), false⟩
theorem e61_ok (K : Nat) : EntOk Tryz.prog 61 (e61 K) := entOk_k (ins := ins61) (rs := res61) (α := BOX × Int) (lib61_1 K) (d := 3) Tryz.func61 rfl (by kernel_rfl) (by kernel_rfl) (by kernel_rfl) (fun x => implf61 K x.1 x.2.1) (fun p => (p.1.1, p.1.2.1)) (fun y => ((y.1, y.2, ()), (()))) (fun _ => rfl) (fun x => q61 K x.1 x.2.1)

/-! diaphone/relay.worded -/
abbrev ins94 : Fs := [(.dat (.pr (.sl (.arr 2 (.int .i64))) (.sl (.int .i64))), false), (.dat (.sl (.int .i64)), false)]
abbrev res94 : Sh := .dat (.int .i64)
theorem lp94 : loopsIn (codeOf Tryz.f94) 0 = [] := by kernel_rfl
noncomputable def L94_0 (K : Nat) : Lib := mkLib ti [(87, [e87 K]), (144, [e144a K, e144b K]), (116, [e116 K])] [(118, Tryz.f118), (119, Tryz.f119)] 94 []
theorem lib94_0 (K : Nat) : LibOk Tryz.prog (L94_0 K) := libOk_mk (ents := [(87, [e87 K]), (144, [e144a K, e144b K]), (116, [e116 K])]) (bodies := [(118, Tryz.f118), (119, Tryz.f119)]) (loops := []) order tiOk ⟨one_ent (e87_ok K), more_ent (e144a_ok K) (one_ent (e144b_ok K)), one_ent (e116_ok K), trivial⟩ ⟨bod118, bod119, trivial⟩ Tryz.func94 rfl lp94 trivial
noncomputable def implf94 (K : Nat) (x1 : BOX) (x2 : (List Int)) : Option (Int) :=
  (ob (implf87 K x1) fun y1 => (bif y1 != (0 : Int) then some (y1) else (bif decide ((↑x2.length : Int) > (40 : Int)) then some ((3 : Int)) else (ob (implf144b K x2 ()) fun y2 => (bif decide (y2 ≥ (0 : Int)) then some ((1 : Int)) else some ((0 : Int)))))))
theorem q94 (K : Nat) (x1 : BOX) (x2 : (List Int)) : evFnK (α := Int) (L94_0 K) 3 94 Tryz.f94.results.toList (codeOf Tryz.f94) ins94 res94 (fun p => p.1) (x1, x2, ()) = implf94 K x1 x2 := by kernel_rfl
noncomputable def e94 (K : Nat) : Ent := ⟨ins94, res94, Int, fun x => implf94 K x.1 x.2.1, fun _ => (fun y => (y, (()))), false⟩
theorem e94_ok (K : Nat) : EntOk Tryz.prog 94 (e94 K) := entOk_k (ins := ins94) (rs := res94) (α := Int) (lib94_0 K) (d := 3) Tryz.func94 rfl (by kernel_rfl) (by kernel_rfl) (by kernel_rfl) (fun x => implf94 K x.1 x.2.1) (fun p => p.1) (fun y => (y, (()))) (fun _ => rfl) (fun x => q94 K x.1 x.2.1)

/-! diaphone/relay.Run -/
abbrev ins62 : Fs := [(.dat (.pr (.sl (.arr 2 (.int .i64))) (.sl (.int .i64))), false), (.dat (.sl (.int .i64)), false)]
abbrev res62 : Sh := .cons (.own (.int .i64)) (.cons (.dat (.int .i64)) (.un))
theorem lp62 : loopsIn (codeOf Tryz.f62) 0 = [(0, loopOf 0 (codeOf Tryz.f62))] := by kernel_rfl
noncomputable def L62_0 (K : Nat) : Lib := mkLib ti [(94, [e94 K])] [] 62 []
theorem lib62_0 (K : Nat) : LibOk Tryz.prog (L62_0 K) := libOk_mk (ents := [(94, [e94 K])]) (bodies := []) (loops := []) order tiOk ⟨one_ent (e94_ok K), trivial⟩ trivial Tryz.func62 rfl lp62 ⟨no_lent, trivial⟩
abbrev i62_0 : Fs := [(.box (.dat (.pr (.sl (.arr 2 (.int Go.IntKind.i64))) (.sl (.int Go.IntKind.i64)))), false), (.dat (.int Go.IntKind.i64), true), (.own (.int Go.IntKind.i64), true), (.dat (.sl (.int Go.IntKind.i64)), false), (.dat (.int Go.IntKind.i64), false), (.dat (.int Go.IntKind.i64), true)]
noncomputable def implb62_0 (K : Nat) (rc : BOX → Int → (List Int) → (List Int) → Int → Int → Option (Int × (List Int) × Int × Unit)) (x1 : BOX) (x2 : Int) (x3 : (List Int)) (x4 : (List Int)) (x5 : Int) (x6 : Int) : Option (Int × (List Int) × Int × Unit) :=
  (bif decide (x6 < x5) then (if (0 : Int) ≤ x6 ∧ x6 < (↑x4.length : Int) then (if (0 : Int) ≤ x2 ∧ x2 < (↑x1.1.length : Int) then (if (0 : Int) ≤ x4.getD x6.toNat ((0 : Int)) ∧ x4.getD x6.toNat ((0 : Int)) < (2 : Int) then (if (0 : Int) ≤ (x1.1.getD x2.toNat (List.replicate 2 ((0 : Int)))).getD (x4.getD x6.toNat ((0 : Int))).toNat ((0 : Int)) ∧ (x1.1.getD x2.toNat (List.replicate 2 ((0 : Int)))).getD (x4.getD x6.toNat ((0 : Int))).toNat ((0 : Int)) < (↑x1.2.length : Int) then (if (x3.length + ((List.replicate 1 ((0 : Int))).set 0 (x1.2.getD ((x1.1.getD x2.toNat (List.replicate 2 ((0 : Int)))).getD (x4.getD x6.toNat ((0 : Int))).toNat ((0 : Int))).toNat ((0 : Int)))).length) * 8 ≤ 140737488355328 then (rc x1 ((x1.1.getD x2.toNat (List.replicate 2 ((0 : Int)))).getD (x4.getD x6.toNat ((0 : Int))).toNat ((0 : Int))) (x3 ++ (List.replicate 1 ((0 : Int))).set 0 (x1.2.getD ((x1.1.getD x2.toNat (List.replicate 2 ((0 : Int)))).getD (x4.getD x6.toNat ((0 : Int))).toNat ((0 : Int))).toNat ((0 : Int)))) x4 x5 (IntKind.i64.wrap (x6 + (1 : Int)))) else none) else none) else none) else none) else none) else some ((x2, x3, x6, ())))
noncomputable def impll62_0 (K : Nat) : Nat → BOX → Int → (List Int) → (List Int) → Int → Int → Option (Int × (List Int) × Int × Unit)
  | 0, _, _, _, _, _, _ => none
  | k + 1, x1, x2, x3, x4, x5, x6 => implb62_0 K (impll62_0 K k) x1 x2 x3 x4 x5 x6
noncomputable def n62_0 (K : Nat) : Lent := ⟨[2, 7, 8, 22, 23, 24], i62_0, [25, 26, 27, 10, 28, 29, 30, 31, 32, 33, 34, 35, 36, 37, 38, 39, 40, 41, 42, 43], [0], false, res62, fun x => impll62_0 K K x.1 x.2.1 x.2.2.1 x.2.2.2.1 x.2.2.2.2.1 x.2.2.2.2.2.1, [], none⟩
theorem q62_0 (K : Nat) (rc : BOX → Int → (List Int) → (List Int) → Int → Int → Option (Int × (List Int) × Int × Unit)) (x1 : BOX) (x2 : Int) (x3 : (List Int)) (x4 : (List Int)) (x5 : Int) (x6 : Int) : evLoop (L62_0 K) 3 62 Tryz.f62.results.toList (loopOf 0 (codeOf Tryz.f62)) 0 [2, 7, 8, 22, 23, 24] [] i62_0 [0] false res62 (fun x => rc x.1 x.2.1 x.2.2.1 x.2.2.2.1 x.2.2.2.2.1 x.2.2.2.2.2.1) (x1, x2, x3, x4, x5, x6, ()) = implb62_0 K rc x1 x2 x3 x4 x5 x6 := by kernel_rfl
theorem lp62_0 : loopsIn (loopOf 0 (codeOf Tryz.f62)) 0 = [] := by kernel_rfl
theorem n62_0_ok (K : Nat) : LentOk Tryz.prog Tryz.f62 (loopOf 0 (codeOf Tryz.f62)) (n62_0 K) := lentOk_k (slots := [2, 7, 8, 22, 23, 24]) (ali := []) (ins := i62_0) (writes := [25, 26, 27, 10, 28, 29, 30, 31, 32, 33, 34, 35, 36, 37, 38, 39, 40, 41, 42, 43]) (exits := [0]) (rets := false) (rs := res62) (d := 3) (lib62_0 K) lp62_0 trivial (by kernel_rfl) (by kernel_rfl) (by kernel_rfl) (by kernel_rfl) (by kernel_rfl) (fun k x => impll62_0 K k x.1 x.2.1 x.2.2.1 x.2.2.2.1 x.2.2.2.2.1 x.2.2.2.2.2.1) (fun _ => rfl) (fun k x => q62_0 K (impll62_0 K k) x.1 x.2.1 x.2.2.1 x.2.2.2.1 x.2.2.2.2.1 x.2.2.2.2.2.1) K
noncomputable def L62_1 (K : Nat) : Lib := mkLib ti [(94, [e94 K])] [] 62 [(0, [n62_0 K])]
theorem lib62_1 (K : Nat) : LibOk Tryz.prog (L62_1 K) := libOk_mk (ents := [(94, [e94 K])]) (bodies := []) (loops := [(0, [n62_0 K])]) order tiOk ⟨one_ent (e94_ok K), trivial⟩ trivial Tryz.func62 rfl lp62 ⟨one_lent (n62_0_ok K), trivial⟩
noncomputable def implf62 (K : Nat) (x1 : BOX) (x2 : (List Int)) : Option ((List Int) × Int) :=
  (ob (implf94 K x1 x2) fun y1 => (bif y1 != (0 : Int) then some (([], y1)) else (if (0 : Int) ≤ (0 : Int) ∧ (0 : Int) < (↑x1.2.length : Int) then (ob (impll62_0 K K x1 ((0 : Int)) ((List.replicate 1 ((0 : Int))).set 0 (x1.2.getD (0) ((0 : Int)))) x2 ((↑x2.length : Int)) ((0 : Int))) fun y2 => some ((y2.2.1, (0 : Int)))) else none)))
theorem q62 (K : Nat) (x1 : BOX) (x2 : (List Int)) : evFnK (α := (List Int) × Int) (L62_1 K) 3 62 Tryz.f62.results.toList (codeOf Tryz.f62) ins62 res62 (fun p => (p.1.1, p.1.2.1)) (x1, x2, ()) = implf62 K x1 x2 := by kernel_rfl
noncomputable def e62 (K : Nat) : Ent := ⟨ins62, res62, (List Int) × Int, fun x => implf62 K x.1 x.2.1, fun _ => (fun y => ((y.1, y.2, ()), (()))), false⟩
theorem e62_ok (K : Nat) : EntOk Tryz.prog 62 (e62 K) := entOk_k (ins := ins62) (rs := res62) (α := (List Int) × Int) (lib62_1 K) (d := 3) Tryz.func62 rfl (by kernel_rfl) (by kernel_rfl) (by kernel_rfl) (fun x => implf62 K x.1 x.2.1) (fun p => (p.1.1, p.1.2.1)) (fun y => ((y.1, y.2, ()), (()))) (fun _ => rfl) (fun x => q62 K x.1 x.2.1)

end Go.Proofs.YtbpjodikknbcoaaGreatDoor
