/- What the functions compute: printed by a program of this claim's author. -/
import Derived.Test.YtdgibokmaannjaaF4
set_option maxRecDepth 100000
set_option linter.unusedVariables false
set_option linter.unusedSimpArgs false
namespace Go.Proofs.Ytdgibokmaannjaa
open Go Go.Pv

/-! diaphone/diaphonelaw05.EchoAmong -/
abbrev ins8 : Fs := [(.dat (.sl (.int .i64)), false)]
abbrev res8 : Sh := .dat (.bool)
theorem lp8 : loopsIn (codeOf Try.f8) 0 = [(0, loopOf 0 (codeOf Try.f8))] := by kernel_rfl
noncomputable def L8_0 (K : Nat) : Lib := mkLib ti [(18, [e18 K]), (19, [e19 K]), (24, [e24 K]), (29, [e29 K]), (36, [e36 K]), (37, [e37 K])] [] 8 []
theorem lib8_0 (K : Nat) : LibOk Try.prog (L8_0 K) := libOk_mk (ents := [(18, [e18 K]), (19, [e19 K]), (24, [e24 K]), (29, [e29 K]), (36, [e36 K]), (37, [e37 K])]) (bodies := []) (loops := []) order tiOk ⟨one_ent (e18_ok K), one_ent (e19_ok K), one_ent (e24_ok K), one_ent (e29_ok K), one_ent (e36_ok K), one_ent (e37_ok K), trivial⟩ trivial Try.func8 rfl lp8 ⟨no_lent, trivial⟩
abbrev i8_0 : Fs := [(.own (.int Go.IntKind.i64), false), (.own (.sl (.int Go.IntKind.i64)), false), (.dat (.int Go.IntKind.i64), false), (.dat (.int Go.IntKind.i64), true)]
noncomputable def implb8_0 (K : Nat) (rc : (List Int) → (List (List Int)) → Int → Int → Option (Sum (Int × Unit) Bool)) (x1 : (List Int)) (x2 : (List (List Int))) (x3 : Int) (x4 : Int) : Option (Sum (Int × Unit) Bool) :=
  (bif decide (x4 < (↑x2.length : Int)) then (if (0 : Int) ≤ x4 ∧ x4 < (↑x2.length : Int) then (ob (implf24 K (x2.getD x4.toNat []) x1) fun y1 => (bif y1 then (bif x3 == (0 : Int) then (ob (implf19 K) fun y2 => some (Sum.inr y2)) else some (Sum.inr false)) else (rc x1 x2 x3 (IntKind.i64.wrap (x4 + (1 : Int)))))) else none) else some (Sum.inl (x4, ())))
noncomputable def impll8_0 (K : Nat) : Nat → (List Int) → (List (List Int)) → Int → Int → Option (Sum (Int × Unit) Bool)
  | 0, _, _, _, _ => none
  | k + 1, x1, x2, x3, x4 => implb8_0 K (impll8_0 K k) x1 x2 x3 x4
noncomputable def n8_0 (K : Nat) : Lent := ⟨[3, 7, 8, 9], i8_0, [41, 42, 43, 44, 47, 48, 49, 50, 51, 52, 53, 54, 55, 56, 57, 2, 45, 46], [0], true, res8, fun x => impll8_0 K K x.1 x.2.1 x.2.2.1 x.2.2.2.1, []⟩
theorem q8_0 (K : Nat) (rc : (List Int) → (List (List Int)) → Int → Int → Option (Sum (Int × Unit) Bool)) (x1 : (List Int)) (x2 : (List (List Int))) (x3 : Int) (x4 : Int) : evLoop (L8_0 K) 3 8 Try.f8.results.toList (loopOf 0 (codeOf Try.f8)) 0 [3, 7, 8, 9] [] i8_0 [0] true res8 (fun x => rc x.1 x.2.1 x.2.2.1 x.2.2.2.1) (x1, x2, x3, x4, ()) = implb8_0 K rc x1 x2 x3 x4 := by kernel_rfl
theorem lp8_0 : loopsIn (loopOf 0 (codeOf Try.f8)) 0 = [] := by kernel_rfl
theorem n8_0_ok (K : Nat) : LentOk Try.prog Try.f8 (loopOf 0 (codeOf Try.f8)) (n8_0 K) := lentOk_k (slots := [3, 7, 8, 9]) (ali := []) (ins := i8_0) (writes := [41, 42, 43, 44, 47, 48, 49, 50, 51, 52, 53, 54, 55, 56, 57, 2, 45, 46]) (exits := [0]) (rets := true) (rs := res8) (d := 3) (lib8_0 K) lp8_0 trivial (by kernel_rfl) (by kernel_rfl) (by kernel_rfl) (by kernel_rfl) (by kernel_rfl) (fun k x => impll8_0 K k x.1 x.2.1 x.2.2.1 x.2.2.2.1) (fun _ => rfl) (fun k x => q8_0 K (impll8_0 K k) x.1 x.2.1 x.2.2.1 x.2.2.2.1) K
noncomputable def L8_1 (K : Nat) : Lib := mkLib ti [(18, [e18 K]), (19, [e19 K]), (24, [e24 K]), (29, [e29 K]), (36, [e36 K]), (37, [e37 K])] [] 8 [(0, [n8_0 K])]
theorem lib8_1 (K : Nat) : LibOk Try.prog (L8_1 K) := libOk_mk (ents := [(18, [e18 K]), (19, [e19 K]), (24, [e24 K]), (29, [e29 K]), (36, [e36 K]), (37, [e37 K])]) (bodies := []) (loops := [(0, [n8_0 K])]) order tiOk ⟨one_ent (e18_ok K), one_ent (e19_ok K), one_ent (e24_ok K), one_ent (e29_ok K), one_ent (e36_ok K), one_ent (e37_ok K), trivial⟩ trivial Try.func8 rfl lp8 ⟨one_lent (n8_0_ok K), trivial⟩
noncomputable def implf8 (K : Nat) (x1 : (List Int)) : Option (Bool) :=
  (ob (implf18 K ((List.replicate 1 []).set 0 x1)) fun y1 => (bif y1 then (ob (implf19 K) fun y2 => some (y2)) else (ob (implf36 K x1) fun y3 => (ob (implf29 K x1) fun y4 => (bif y3.2 != (0 : Int) then (bif y3.2 == y4.2 then (ob (implf19 K) fun y5 => some (y5)) else some (false)) else (bif y4.2 != (0 : Int) then (bif y3.2 == y4.2 then (ob (implf19 K) fun y6 => some (y6)) else some (false)) else (ob (implf37 K y4.1) fun y7 => (ob (impll8_0 K K y3.1 y7.1 y7.2 ((0 : Int))) fun y8 => (match y8 with | .inl y9 => some (false) | .inr y9 => some (y9))))))))))
theorem q8 (K : Nat) (x1 : (List Int)) : evFnK (α := Bool) (L8_1 K) 3 8 Try.f8.results.toList (codeOf Try.f8) ins8 res8 (fun p => p.1) (x1, ()) = implf8 K x1 := by kernel_rfl
noncomputable def e8 (K : Nat) : Ent := ⟨ins8, res8, Bool, fun x => implf8 K x.1, fun _ => (fun y => (y, (()))), false⟩
theorem e8_ok (K : Nat) : EntOk Try.prog 8 (e8 K) := entOk_k (ins := ins8) (rs := res8) (α := Bool) (lib8_1 K) (d := 3) Try.func8 rfl (by kernel_rfl) (by kernel_rfl) (by kernel_rfl) (fun x => implf8 K x.1) (fun p => p.1) (fun y => (y, (()))) (fun _ => rfl) (fun x => q8 K x.1)

/-! diaphone/echo.Shift -/
abbrev ins38 : Fs := [(.dat (.sl (.int .i64)), false), (.dat (.int .i64), false)]
abbrev res38 : Sh := .cons (.own (.int .i64)) (.cons (.dat (.int .i64)) (.un))
theorem lp38 : loopsIn (codeOf Try.f38) 0 = [] := by kernel_rfl
noncomputable def L38_0 (K : Nat) : Lib := mkLib ti [(32, [e32 K]), (61, [e61 K]), (76, [e76 K])] [] 38 []
theorem lib38_0 (K : Nat) : LibOk Try.prog (L38_0 K) := libOk_mk (ents := [(32, [e32 K]), (61, [e61 K]), (76, [e76 K])]) (bodies := []) (loops := []) order tiOk ⟨one_ent (e32_ok K), one_ent (e61_ok K), one_ent (e76_ok K), trivial⟩ trivial Try.func38 rfl lp38 trivial
noncomputable def implf38 (K : Nat) (x1 : (List Int)) (x2 : Int) : Option ((List Int) × Int) :=
  (ob (implf32 K x1) fun y1 => (bif y1 != (0 : Int) then some (([], y1)) else (ob (implf61 K x2 (-120 : Int) ((120 : Int))) fun y2 => (bif !y2 then some (([], (1 : Int))) else (ob (implf76 K x1 x2) fun y3 => (ob (implf32 K y3) fun y4 => (bif y4 != (0 : Int) then some (([], (1 : Int))) else (ob (implf76 K x1 x2) fun y5 => some ((y5, (0 : Int)))))))))))
theorem q38 (K : Nat) (x1 : (List Int)) (x2 : Int) : evFnK (α := (List Int) × Int) (L38_0 K) 3 38 Try.f38.results.toList (codeOf Try.f38) ins38 res38 (fun p => (p.1.1, p.1.2.1)) (x1, x2, ()) = implf38 K x1 x2 := by kernel_rfl
noncomputable def e38 (K : Nat) : Ent := ⟨ins38, res38, (List Int) × Int, fun x => implf38 K x.1 x.2.1, fun _ => (fun y => ((y.1, y.2, ()), (()))), false⟩
theorem e38_ok (K : Nat) : EntOk Try.prog 38 (e38 K) := entOk_k (ins := ins38) (rs := res38) (α := (List Int) × Int) (lib38_0 K) (d := 3) Try.func38 rfl (by kernel_rfl) (by kernel_rfl) (by kernel_rfl) (fun x => implf38 K x.1 x.2.1) (fun p => (p.1.1, p.1.2.1)) (fun y => ((y.1, y.2, ()), (()))) (fun _ => rfl) (fun x => q38 K x.1 x.2.1)

/-! diaphone/diaphoneref05.Shift -/
abbrev ins39 : Fs := [(.dat (.sl (.int .i64)), false), (.dat (.int .i64), false)]
abbrev res39 : Sh := .cons (.own (.int .i64)) (.cons (.dat (.int .i64)) (.un))
theorem lp39 : loopsIn (codeOf Try.f39) 0 = [(0, loopOf 0 (codeOf Try.f39))] := by kernel_rfl
noncomputable def L39_0 (K : Nat) : Lib := mkLib ti [(33, [e33 K]), (63, [e63 K])] [] 39 []
theorem lib39_0 (K : Nat) : LibOk Try.prog (L39_0 K) := libOk_mk (ents := [(33, [e33 K]), (63, [e63 K])]) (bodies := []) (loops := []) order tiOk ⟨one_ent (e33_ok K), one_ent (e63_ok K), trivial⟩ trivial Try.func39 rfl lp39 ⟨no_lent, trivial⟩
abbrev i39_0 : Fs := [(.dat (.sl (.int Go.IntKind.i64)), false), (.dat (.int Go.IntKind.i64), false), (.own (.int .i64), true), (.dat (.int Go.IntKind.i64), true)]
noncomputable def implb39_0 (K : Nat) (rc : (List Int) → Int → (List Int) → Int → Option ((List Int) × Int × Unit)) (x1 : (List Int)) (x2 : Int) (x3 : (List Int)) (x4 : Int) : Option ((List Int) × Int × Unit) :=
  (bif decide (x4 < (↑x1.length : Int)) then (if (0 : Int) ≤ x4 ∧ x4 < (↑x1.length : Int) then (if (x3.length + ((List.replicate 1 ((0 : Int))).set 0 (IntKind.i64.wrap (x1.getD x4.toNat ((0 : Int)) + x2))).length) * 8 ≤ 140737488355328 then (rc x1 x2 (x3 ++ (List.replicate 1 ((0 : Int))).set 0 (IntKind.i64.wrap (x1.getD x4.toNat ((0 : Int)) + x2))) (IntKind.i64.wrap (x4 + (1 : Int)))) else none) else none) else some ((x3, x4, ())))
noncomputable def impll39_0 (K : Nat) : Nat → (List Int) → Int → (List Int) → Int → Option ((List Int) × Int × Unit)
  | 0, _, _, _, _ => none
  | k + 1, x1, x2, x3, x4 => implb39_0 K (impll39_0 K k) x1 x2 x3 x4
noncomputable def n39_0 (K : Nat) : Lent := ⟨[0, 1, 7, 8], i39_0, [17, 18, 19, 20, 23, 24, 25, 26, 27, 28, 29, 30, 31, 21, 22], [0], false, res39, fun x => impll39_0 K K x.1 x.2.1 x.2.2.1 x.2.2.2.1, []⟩
theorem q39_0 (K : Nat) (rc : (List Int) → Int → (List Int) → Int → Option ((List Int) × Int × Unit)) (x1 : (List Int)) (x2 : Int) (x3 : (List Int)) (x4 : Int) : evLoop (L39_0 K) 3 39 Try.f39.results.toList (loopOf 0 (codeOf Try.f39)) 0 [0, 1, 7, 8] [] i39_0 [0] false res39 (fun x => rc x.1 x.2.1 x.2.2.1 x.2.2.2.1) (x1, x2, x3, x4, ()) = implb39_0 K rc x1 x2 x3 x4 := by kernel_rfl
theorem lp39_0 : loopsIn (loopOf 0 (codeOf Try.f39)) 0 = [] := by kernel_rfl
theorem n39_0_ok (K : Nat) : LentOk Try.prog Try.f39 (loopOf 0 (codeOf Try.f39)) (n39_0 K) := lentOk_k (slots := [0, 1, 7, 8]) (ali := []) (ins := i39_0) (writes := [17, 18, 19, 20, 23, 24, 25, 26, 27, 28, 29, 30, 31, 21, 22]) (exits := [0]) (rets := false) (rs := res39) (d := 3) (lib39_0 K) lp39_0 trivial (by kernel_rfl) (by kernel_rfl) (by kernel_rfl) (by kernel_rfl) (by kernel_rfl) (fun k x => impll39_0 K k x.1 x.2.1 x.2.2.1 x.2.2.2.1) (fun _ => rfl) (fun k x => q39_0 K (impll39_0 K k) x.1 x.2.1 x.2.2.1 x.2.2.2.1) K
noncomputable def L39_1 (K : Nat) : Lib := mkLib ti [(33, [e33 K]), (63, [e63 K])] [] 39 [(0, [n39_0 K])]
theorem lib39_1 (K : Nat) : LibOk Try.prog (L39_1 K) := libOk_mk (ents := [(33, [e33 K]), (63, [e63 K])]) (bodies := []) (loops := [(0, [n39_0 K])]) order tiOk ⟨one_ent (e33_ok K), one_ent (e63_ok K), trivial⟩ trivial Try.func39 rfl lp39 ⟨one_lent (n39_0_ok K), trivial⟩
noncomputable def implf39 (K : Nat) (x1 : (List Int)) (x2 : Int) : Option ((List Int) × Int) :=
  (ob (implf33 K x1) fun y1 => (bif y1 != (0 : Int) then some (([], y1)) else (ob (implf63 K x2 (-120 : Int) ((120 : Int))) fun y2 => (bif !y2 then some (([], (1 : Int))) else (ob (impll39_0 K K x1 x2 [] ((0 : Int))) fun y3 => (ob (implf33 K y3.1) fun y4 => (bif y4 != (0 : Int) then some (([], (1 : Int))) else some ((y3.1, (0 : Int))))))))))
theorem q39 (K : Nat) (x1 : (List Int)) (x2 : Int) : evFnK (α := (List Int) × Int) (L39_1 K) 3 39 Try.f39.results.toList (codeOf Try.f39) ins39 res39 (fun p => (p.1.1, p.1.2.1)) (x1, x2, ()) = implf39 K x1 x2 := by kernel_rfl
noncomputable def e39 (K : Nat) : Ent := ⟨ins39, res39, (List Int) × Int, fun x => implf39 K x.1 x.2.1, fun _ => (fun y => ((y.1, y.2, ()), (()))), false⟩
theorem e39_ok (K : Nat) : EntOk Try.prog 39 (e39 K) := entOk_k (ins := ins39) (rs := res39) (α := (List Int) × Int) (lib39_1 K) (d := 3) Try.func39 rfl (by kernel_rfl) (by kernel_rfl) (by kernel_rfl) (fun x => implf39 K x.1 x.2.1) (fun p => (p.1.1, p.1.2.1)) (fun y => ((y.1, y.2, ()), (()))) (fun _ => rfl) (fun x => q39 K x.1 x.2.1)

/-! diaphone/echo.Alike -/
abbrev ins40 : Fs := [(.dat (.sl (.int .i64)), false), (.dat (.sl (.int .i64)), false)]
abbrev res40 : Sh := .cons (.dat (.bool)) (.cons (.dat (.int .i64)) (.un))
theorem lp40 : loopsIn (codeOf Try.f40) 0 = [] := by kernel_rfl
noncomputable def L40_0 (K : Nat) : Lib := mkLib ti [(68, [e68 K]), (69, [e69 K]), (74, [e74 K])] [] 40 []
theorem lib40_0 (K : Nat) : LibOk Try.prog (L40_0 K) := libOk_mk (ents := [(68, [e68 K]), (69, [e69 K]), (74, [e74 K])]) (bodies := []) (loops := []) order tiOk ⟨one_ent (e68_ok K), one_ent (e69_ok K), one_ent (e74_ok K), trivial⟩ trivial Try.func40 rfl lp40 trivial
noncomputable def implf40 (K : Nat) (x1 : (List Int)) (x2 : (List Int)) : Option (Bool × Int) :=
  (ob (implf68 K x1 x2) fun y1 => (bif y1 != (0 : Int) then some ((false, y1)) else (ob (implf74 K x1) fun y2 => (ob (implf74 K x2) fun y3 => (ob (implf69 K y2 y3) fun y4 => some ((y4, (0 : Int))))))))
theorem q40 (K : Nat) (x1 : (List Int)) (x2 : (List Int)) : evFnK (α := Bool × Int) (L40_0 K) 3 40 Try.f40.results.toList (codeOf Try.f40) ins40 res40 (fun p => (p.1.1, p.1.2.1)) (x1, x2, ()) = implf40 K x1 x2 := by kernel_rfl
noncomputable def e40 (K : Nat) : Ent := ⟨ins40, res40, Bool × Int, fun x => implf40 K x.1 x.2.1, fun _ => (fun y => ((y.1, y.2, ()), (()))), false⟩
theorem e40_ok (K : Nat) : EntOk Try.prog 40 (e40 K) := entOk_k (ins := ins40) (rs := res40) (α := Bool × Int) (lib40_0 K) (d := 3) Try.func40 rfl (by kernel_rfl) (by kernel_rfl) (by kernel_rfl) (fun x => implf40 K x.1 x.2.1) (fun p => (p.1.1, p.1.2.1)) (fun y => ((y.1, y.2, ()), (()))) (fun _ => rfl) (fun x => q40 K x.1 x.2.1)

/-! diaphone/diaphonelaw05.EchoShifts -/
abbrev ins9 : Fs := [(.dat (.sl (.int .i64)), false), (.dat (.int .i64), false)]
abbrev res9 : Sh := .dat (.bool)
theorem lp9 : loopsIn (codeOf Try.f9) 0 = [] := by kernel_rfl
noncomputable def L9_0 (K : Nat) : Lib := mkLib ti [(18, [e18 K]), (19, [e19 K]), (24, [e24 K]), (38, [e38 K]), (39, [e39 K]), (40, [e40 K])] [] 9 []
theorem lib9_0 (K : Nat) : LibOk Try.prog (L9_0 K) := libOk_mk (ents := [(18, [e18 K]), (19, [e19 K]), (24, [e24 K]), (38, [e38 K]), (39, [e39 K]), (40, [e40 K])]) (bodies := []) (loops := []) order tiOk ⟨one_ent (e18_ok K), one_ent (e19_ok K), one_ent (e24_ok K), one_ent (e38_ok K), one_ent (e39_ok K), one_ent (e40_ok K), trivial⟩ trivial Try.func9 rfl lp9 trivial
noncomputable def implf9 (K : Nat) (x1 : (List Int)) (x2 : Int) : Option (Bool) :=
  (ob (implf18 K ((List.replicate 1 []).set 0 x1)) fun y1 => (bif y1 then (ob (implf19 K) fun y2 => some (y2)) else (ob (implf38 K x1 x2) fun y3 => (ob (implf39 K x1 x2) fun y4 => (ob (implf24 K y3.1 y4.1) fun y5 => (bif !y5 then some (false) else (bif y3.2 != y4.2 then some (false) else (bif y3.2 != (0 : Int) then (ob (implf19 K) fun y6 => some (y6)) else (ob (implf40 K x1 y3.1) fun y7 => (bif y7.2 == (0 : Int) then (bif y7.1 then (ob (implf19 K) fun y8 => some (y8)) else some (false)) else some (false)))))))))))
theorem q9 (K : Nat) (x1 : (List Int)) (x2 : Int) : evFnK (α := Bool) (L9_0 K) 3 9 Try.f9.results.toList (codeOf Try.f9) ins9 res9 (fun p => p.1) (x1, x2, ()) = implf9 K x1 x2 := by kernel_rfl
noncomputable def e9 (K : Nat) : Ent := ⟨ins9, res9, Bool, fun x => implf9 K x.1 x.2.1, fun _ => (fun y => (y, (()))), false⟩
theorem e9_ok (K : Nat) : EntOk Try.prog 9 (e9 K) := entOk_k (ins := ins9) (rs := res9) (α := Bool) (lib9_0 K) (d := 3) Try.func9 rfl (by kernel_rfl) (by kernel_rfl) (by kernel_rfl) (fun x => implf9 K x.1 x.2.1) (fun p => p.1) (fun y => (y, (()))) (fun _ => rfl) (fun x => q9 K x.1 x.2.1)

/-! diaphone/diaphoneref05.Normal -/
abbrev ins41 : Fs := [(.dat (.sl (.int .i64)), false)]
abbrev res41 : Sh := .cons (.own (.int .i64)) (.cons (.dat (.int .i64)) (.un))
theorem lp41 : loopsIn (codeOf Try.f41) 0 = [] := by kernel_rfl
noncomputable def L41_0 (K : Nat) : Lib := mkLib ti [(33, [e33 K]), (66, [e66 K])] [] 41 []
theorem lib41_0 (K : Nat) : LibOk Try.prog (L41_0 K) := libOk_mk (ents := [(33, [e33 K]), (66, [e66 K])]) (bodies := []) (loops := []) order tiOk ⟨one_ent (e33_ok K), one_ent (e66_ok K), trivial⟩ trivial Try.func41 rfl lp41 trivial
noncomputable def implf41 (K : Nat) (x1 : (List Int)) : Option ((List Int) × Int) :=
  (ob (implf33 K x1) fun y1 => (bif y1 != (0 : Int) then some (([], y1)) else (ob (implf66 K x1) fun y2 => some ((y2, (0 : Int))))))
theorem q41 (K : Nat) (x1 : (List Int)) : evFnK (α := (List Int) × Int) (L41_0 K) 3 41 Try.f41.results.toList (codeOf Try.f41) ins41 res41 (fun p => (p.1.1, p.1.2.1)) (x1, ()) = implf41 K x1 := by kernel_rfl
noncomputable def e41 (K : Nat) : Ent := ⟨ins41, res41, (List Int) × Int, fun x => implf41 K x.1, fun _ => (fun y => ((y.1, y.2, ()), (()))), false⟩
theorem e41_ok (K : Nat) : EntOk Try.prog 41 (e41 K) := entOk_k (ins := ins41) (rs := res41) (α := (List Int) × Int) (lib41_0 K) (d := 3) Try.func41 rfl (by kernel_rfl) (by kernel_rfl) (by kernel_rfl) (fun x => implf41 K x.1) (fun p => (p.1.1, p.1.2.1)) (fun y => ((y.1, y.2, ()), (()))) (fun _ => rfl) (fun x => q41 K x.1)

/-! diaphone/diaphoneref05.Same -/
abbrev ins42 : Fs := [(.dat (.sl (.int .i64)), false), (.dat (.sl (.int .i64)), false)]
abbrev res42 : Sh := .cons (.dat (.bool)) (.cons (.dat (.int .i64)) (.un))
theorem lp42 : loopsIn (codeOf Try.f42) 0 = [] := by kernel_rfl
noncomputable def L42_0 (K : Nat) : Lib := mkLib ti [(24, [e24 K]), (59, [e59 K]), (71, [e71 K])] [] 42 []
theorem lib42_0 (K : Nat) : LibOk Try.prog (L42_0 K) := libOk_mk (ents := [(24, [e24 K]), (59, [e59 K]), (71, [e71 K])]) (bodies := []) (loops := []) order tiOk ⟨one_ent (e24_ok K), one_ent (e59_ok K), one_ent (e71_ok K), trivial⟩ trivial Try.func42 rfl lp42 trivial
noncomputable def implf42 (K : Nat) (x1 : (List Int)) (x2 : (List Int)) : Option (Bool × Int) :=
  (ob (implf59 K x1 x2) fun y1 => (bif y1 != (0 : Int) then some ((false, y1)) else (ob (implf71 K x1) fun y2 => (ob (implf71 K x2) fun y3 => (ob (implf24 K y2 y3) fun y4 => some ((y4, (0 : Int))))))))
theorem q42 (K : Nat) (x1 : (List Int)) (x2 : (List Int)) : evFnK (α := Bool × Int) (L42_0 K) 3 42 Try.f42.results.toList (codeOf Try.f42) ins42 res42 (fun p => (p.1.1, p.1.2.1)) (x1, x2, ()) = implf42 K x1 x2 := by kernel_rfl
noncomputable def e42 (K : Nat) : Ent := ⟨ins42, res42, Bool × Int, fun x => implf42 K x.1 x.2.1, fun _ => (fun y => ((y.1, y.2, ()), (()))), false⟩
theorem e42_ok (K : Nat) : EntOk Try.prog 42 (e42 K) := entOk_k (ins := ins42) (rs := res42) (α := Bool × Int) (lib42_0 K) (d := 3) Try.func42 rfl (by kernel_rfl) (by kernel_rfl) (by kernel_rfl) (fun x => implf42 K x.1 x.2.1) (fun p => (p.1.1, p.1.2.1)) (fun y => ((y.1, y.2, ()), (()))) (fun _ => rfl) (fun x => q42 K x.1 x.2.1)

/-! diaphone/diaphoneref05.Alike -/
abbrev ins43 : Fs := [(.dat (.sl (.int .i64)), false), (.dat (.sl (.int .i64)), false)]
abbrev res43 : Sh := .cons (.dat (.bool)) (.cons (.dat (.int .i64)) (.un))
theorem lp43 : loopsIn (codeOf Try.f43) 0 = [] := by kernel_rfl
noncomputable def L43_0 (K : Nat) : Lib := mkLib ti [(24, [e24 K]), (59, [e59 K]), (66, [e66 K])] [] 43 []
theorem lib43_0 (K : Nat) : LibOk Try.prog (L43_0 K) := libOk_mk (ents := [(24, [e24 K]), (59, [e59 K]), (66, [e66 K])]) (bodies := []) (loops := []) order tiOk ⟨one_ent (e24_ok K), one_ent (e59_ok K), one_ent (e66_ok K), trivial⟩ trivial Try.func43 rfl lp43 trivial
noncomputable def implf43 (K : Nat) (x1 : (List Int)) (x2 : (List Int)) : Option (Bool × Int) :=
  (ob (implf59 K x1 x2) fun y1 => (bif y1 != (0 : Int) then some ((false, y1)) else (ob (implf66 K x1) fun y2 => (ob (implf66 K x2) fun y3 => (ob (implf24 K y2 y3) fun y4 => some ((y4, (0 : Int))))))))
theorem q43 (K : Nat) (x1 : (List Int)) (x2 : (List Int)) : evFnK (α := Bool × Int) (L43_0 K) 3 43 Try.f43.results.toList (codeOf Try.f43) ins43 res43 (fun p => (p.1.1, p.1.2.1)) (x1, x2, ()) = implf43 K x1 x2 := by kernel_rfl
noncomputable def e43 (K : Nat) : Ent := ⟨ins43, res43, Bool × Int, fun x => implf43 K x.1 x.2.1, fun _ => (fun y => ((y.1, y.2, ()), (()))), false⟩
theorem e43_ok (K : Nat) : EntOk Try.prog 43 (e43 K) := entOk_k (ins := ins43) (rs := res43) (α := Bool × Int) (lib43_0 K) (d := 3) Try.func43 rfl (by kernel_rfl) (by kernel_rfl) (by kernel_rfl) (fun x => implf43 K x.1 x.2.1) (fun p => (p.1.1, p.1.2.1)) (fun y => ((y.1, y.2, ()), (()))) (fun _ => rfl) (fun x => q43 K x.1 x.2.1)

/-! diaphone/diaphonelaw05.EchoForms -/
abbrev ins10 : Fs := [(.dat (.sl (.int .i64)), false), (.dat (.sl (.int .i64)), false)]
abbrev res10 : Sh := .dat (.bool)
theorem lp10 : loopsIn (codeOf Try.f10) 0 = [] := by kernel_rfl
noncomputable def L10_0 (K : Nat) : Lib := mkLib ti [(18, [e18 K]), (19, [e19 K]), (24, [e24 K]), (28, [e28 K]), (36, [e36 K]), (40, [e40 K]), (41, [e41 K]), (42, [e42 K]), (43, [e43 K])] [] 10 []
theorem lib10_0 (K : Nat) : LibOk Try.prog (L10_0 K) := libOk_mk (ents := [(18, [e18 K]), (19, [e19 K]), (24, [e24 K]), (28, [e28 K]), (36, [e36 K]), (40, [e40 K]), (41, [e41 K]), (42, [e42 K]), (43, [e43 K])]) (bodies := []) (loops := []) order tiOk ⟨one_ent (e18_ok K), one_ent (e19_ok K), one_ent (e24_ok K), one_ent (e28_ok K), one_ent (e36_ok K), one_ent (e40_ok K), one_ent (e41_ok K), one_ent (e42_ok K), one_ent (e43_ok K), trivial⟩ trivial Try.func10 rfl lp10 trivial
noncomputable def implf10 (K : Nat) (x1 : (List Int)) (x2 : (List Int)) : Option (Bool) :=
  (ob (implf18 K (((List.replicate 2 []).set 0 x1).set 1 x2)) fun y1 => (bif y1 then (ob (implf19 K) fun y2 => some (y2)) else (ob (implf36 K x1) fun y3 => (ob (implf41 K x1) fun y4 => (ob (implf28 K x1 x2) fun y5 => (ob (implf42 K x1 x2) fun y6 => (ob (implf40 K x1 x2) fun y7 => (ob (implf43 K x1 x2) fun y8 => (ob (implf24 K y3.1 y4.1) fun y9 => (bif y9 then (bif y3.2 == y4.2 then (bif y5.1 == y6.1 then (bif y5.2 == y6.2 then (bif y7.1 == y8.1 then (bif y7.2 == y8.2 then (bif !y7.1 then (ob (implf19 K) fun y10 => some (y10)) else (bif y5.1 then (ob (implf19 K) fun y11 => some (y11)) else some (false))) else some (false)) else some (false)) else some (false)) else some (false)) else some (false)) else some (false)))))))))))
theorem q10 (K : Nat) (x1 : (List Int)) (x2 : (List Int)) : evFnK (α := Bool) (L10_0 K) 3 10 Try.f10.results.toList (codeOf Try.f10) ins10 res10 (fun p => p.1) (x1, x2, ()) = implf10 K x1 x2 := by kernel_rfl
noncomputable def e10 (K : Nat) : Ent := ⟨ins10, res10, Bool, fun x => implf10 K x.1 x.2.1, fun _ => (fun y => (y, (()))), false⟩
theorem e10_ok (K : Nat) : EntOk Try.prog 10 (e10 K) := entOk_k (ins := ins10) (rs := res10) (α := Bool) (lib10_0 K) (d := 3) Try.func10 rfl (by kernel_rfl) (by kernel_rfl) (by kernel_rfl) (fun x => implf10 K x.1 x.2.1) (fun p => p.1) (fun y => (y, (()))) (fun _ => rfl) (fun x => q10 K x.1 x.2.1)

/-! diaphone/echo.Mirror -/
abbrev ins44 : Fs := [(.dat (.sl (.int .i64)), false)]
abbrev res44 : Sh := .cons (.own (.int .i64)) (.cons (.dat (.int .i64)) (.un))
theorem lp44 : loopsIn (codeOf Try.f44) 0 = [] := by kernel_rfl
noncomputable def L44_0 (K : Nat) : Lib := mkLib ti [(32, [e32 K]), (77, [e77 K])] [] 44 []
theorem lib44_0 (K : Nat) : LibOk Try.prog (L44_0 K) := libOk_mk (ents := [(32, [e32 K]), (77, [e77 K])]) (bodies := []) (loops := []) order tiOk ⟨one_ent (e32_ok K), one_ent (e77_ok K), trivial⟩ trivial Try.func44 rfl lp44 trivial
noncomputable def implf44 (K : Nat) (x1 : (List Int)) : Option ((List Int) × Int) :=
  (ob (implf32 K x1) fun y1 => (bif y1 != (0 : Int) then some (([], y1)) else (ob (implf77 K x1) fun y2 => some ((y2, (0 : Int))))))
theorem q44 (K : Nat) (x1 : (List Int)) : evFnK (α := (List Int) × Int) (L44_0 K) 3 44 Try.f44.results.toList (codeOf Try.f44) ins44 res44 (fun p => (p.1.1, p.1.2.1)) (x1, ()) = implf44 K x1 := by kernel_rfl
noncomputable def e44 (K : Nat) : Ent := ⟨ins44, res44, (List Int) × Int, fun x => implf44 K x.1, fun _ => (fun y => ((y.1, y.2, ()), (()))), false⟩
theorem e44_ok (K : Nat) : EntOk Try.prog 44 (e44 K) := entOk_k (ins := ins44) (rs := res44) (α := (List Int) × Int) (lib44_0 K) (d := 3) Try.func44 rfl (by kernel_rfl) (by kernel_rfl) (by kernel_rfl) (fun x => implf44 K x.1) (fun p => (p.1.1, p.1.2.1)) (fun y => ((y.1, y.2, ()), (()))) (fun _ => rfl) (fun x => q44 K x.1)

/-! diaphone/diaphoneref05.Mirror -/
abbrev ins45 : Fs := [(.dat (.sl (.int .i64)), false)]
abbrev res45 : Sh := .cons (.own (.int .i64)) (.cons (.dat (.int .i64)) (.un))
theorem lp45 : loopsIn (codeOf Try.f45) 0 = [] := by kernel_rfl
noncomputable def L45_0 (K : Nat) : Lib := mkLib ti [(33, [e33 K]), (78, [e78 K])] [] 45 []
theorem lib45_0 (K : Nat) : LibOk Try.prog (L45_0 K) := libOk_mk (ents := [(33, [e33 K]), (78, [e78 K])]) (bodies := []) (loops := []) order tiOk ⟨one_ent (e33_ok K), one_ent (e78_ok K), trivial⟩ trivial Try.func45 rfl lp45 trivial
noncomputable def implf45 (K : Nat) (x1 : (List Int)) : Option ((List Int) × Int) :=
  (ob (implf33 K x1) fun y1 => (bif y1 != (0 : Int) then some (([], y1)) else (ob (implf78 K x1) fun y2 => some ((y2, (0 : Int))))))
theorem q45 (K : Nat) (x1 : (List Int)) : evFnK (α := (List Int) × Int) (L45_0 K) 3 45 Try.f45.results.toList (codeOf Try.f45) ins45 res45 (fun p => (p.1.1, p.1.2.1)) (x1, ()) = implf45 K x1 := by kernel_rfl
noncomputable def e45 (K : Nat) : Ent := ⟨ins45, res45, (List Int) × Int, fun x => implf45 K x.1, fun _ => (fun y => ((y.1, y.2, ()), (()))), false⟩
theorem e45_ok (K : Nat) : EntOk Try.prog 45 (e45 K) := entOk_k (ins := ins45) (rs := res45) (α := (List Int) × Int) (lib45_0 K) (d := 3) Try.func45 rfl (by kernel_rfl) (by kernel_rfl) (by kernel_rfl) (fun x => implf45 K x.1) (fun p => (p.1.1, p.1.2.1)) (fun y => ((y.1, y.2, ()), (()))) (fun _ => rfl) (fun x => q45 K x.1)

/-! diaphone/diaphonelaw05.EchoMirrors -/
abbrev ins11 : Fs := [(.dat (.sl (.int .i64)), false)]
abbrev res11 : Sh := .dat (.bool)
theorem lp11 : loopsIn (codeOf Try.f11) 0 = [(0, loopOf 0 (codeOf Try.f11))] := by kernel_rfl
noncomputable def L11_0 (K : Nat) : Lib := mkLib ti [(18, [e18 K]), (19, [e19 K]), (24, [e24 K]), (28, [e28 K]), (40, [e40 K]), (44, [e44 K]), (45, [e45 K])] [] 11 []
theorem lib11_0 (K : Nat) : LibOk Try.prog (L11_0 K) := libOk_mk (ents := [(18, [e18 K]), (19, [e19 K]), (24, [e24 K]), (28, [e28 K]), (40, [e40 K]), (44, [e44 K]), (45, [e45 K])]) (bodies := []) (loops := []) order tiOk ⟨one_ent (e18_ok K), one_ent (e19_ok K), one_ent (e24_ok K), one_ent (e28_ok K), one_ent (e40_ok K), one_ent (e44_ok K), one_ent (e45_ok K), trivial⟩ trivial Try.func11 rfl lp11 ⟨no_lent, trivial⟩
abbrev i11_0 : Fs := [(.dat (.sl (.int Go.IntKind.i64)), false), (.own (.int Go.IntKind.i64), false), (.own (.int Go.IntKind.i64), true), (.own (.int Go.IntKind.i64), false), (.dat (.int Go.IntKind.i64), false), (.dat (.bool), false), (.dat (.int Go.IntKind.i64), false), (.dat (.bool), false), (.dat (.int Go.IntKind.i64), false), (.dat (.int Go.IntKind.i64), true)]
noncomputable def implb11_0 (K : Nat) (rc : (List Int) → (List Int) → (List Int) → (List Int) → Int → Bool → Int → Bool → Int → Int → Option ((List Int) × Int × Unit)) (x1 : (List Int)) (x2 : (List Int)) (x3 : (List Int)) (x4 : (List Int)) (x5 : Int) (x6 : Bool) (x7 : Int) (x8 : Bool) (x9 : Int) (x10 : Int) : Option ((List Int) × Int × Unit) :=
  (bif decide (x10 < (↑x3.length : Int)) then (if (0 : Int) ≤ x10 ∧ x10 < (↑x3.length : Int) then (rc x1 x2 (x3.set x10.toNat ((1000 : Int))) x4 x5 x6 x7 x8 x9 (IntKind.i64.wrap (x10 + (1 : Int)))) else none) else some ((x3, x10, ())))
noncomputable def impll11_0 (K : Nat) : Nat → (List Int) → (List Int) → (List Int) → (List Int) → Int → Bool → Int → Bool → Int → Int → Option ((List Int) × Int × Unit)
  | 0, _, _, _, _, _, _, _, _, _, _ => none
  | k + 1, x1, x2, x3, x4, x5, x6, x7, x8, x9, x10 => implb11_0 K (impll11_0 K k) x1 x2 x3 x4 x5 x6 x7 x8 x9 x10
noncomputable def n11_0 (K : Nat) : Lent := ⟨[0, 3, 4, 8, 9, 10, 11, 12, 13, 14], i11_0, [61, 62, 63, 64, 67, 68, 69, 65, 66], [0], false, res11, fun x => impll11_0 K K x.1 x.2.1 x.2.2.1 x.2.2.2.1 x.2.2.2.2.1 x.2.2.2.2.2.1 x.2.2.2.2.2.2.1 x.2.2.2.2.2.2.2.1 x.2.2.2.2.2.2.2.2.1 x.2.2.2.2.2.2.2.2.2.1, []⟩
theorem q11_0 (K : Nat) (rc : (List Int) → (List Int) → (List Int) → (List Int) → Int → Bool → Int → Bool → Int → Int → Option ((List Int) × Int × Unit)) (x1 : (List Int)) (x2 : (List Int)) (x3 : (List Int)) (x4 : (List Int)) (x5 : Int) (x6 : Bool) (x7 : Int) (x8 : Bool) (x9 : Int) (x10 : Int) : evLoop (L11_0 K) 3 11 Try.f11.results.toList (loopOf 0 (codeOf Try.f11)) 0 [0, 3, 4, 8, 9, 10, 11, 12, 13, 14] [] i11_0 [0] false res11 (fun x => rc x.1 x.2.1 x.2.2.1 x.2.2.2.1 x.2.2.2.2.1 x.2.2.2.2.2.1 x.2.2.2.2.2.2.1 x.2.2.2.2.2.2.2.1 x.2.2.2.2.2.2.2.2.1 x.2.2.2.2.2.2.2.2.2.1) (x1, x2, x3, x4, x5, x6, x7, x8, x9, x10, ()) = implb11_0 K rc x1 x2 x3 x4 x5 x6 x7 x8 x9 x10 := by kernel_rfl
theorem lp11_0 : loopsIn (loopOf 0 (codeOf Try.f11)) 0 = [] := by kernel_rfl
theorem n11_0_ok (K : Nat) : LentOk Try.prog Try.f11 (loopOf 0 (codeOf Try.f11)) (n11_0 K) := lentOk_k (slots := [0, 3, 4, 8, 9, 10, 11, 12, 13, 14]) (ali := []) (ins := i11_0) (writes := [61, 62, 63, 64, 67, 68, 69, 65, 66]) (exits := [0]) (rets := false) (rs := res11) (d := 3) (lib11_0 K) lp11_0 trivial (by kernel_rfl) (by kernel_rfl) (by kernel_rfl) (by kernel_rfl) (by kernel_rfl) (fun k x => impll11_0 K k x.1 x.2.1 x.2.2.1 x.2.2.2.1 x.2.2.2.2.1 x.2.2.2.2.2.1 x.2.2.2.2.2.2.1 x.2.2.2.2.2.2.2.1 x.2.2.2.2.2.2.2.2.1 x.2.2.2.2.2.2.2.2.2.1) (fun _ => rfl) (fun k x => q11_0 K (impll11_0 K k) x.1 x.2.1 x.2.2.1 x.2.2.2.1 x.2.2.2.2.1 x.2.2.2.2.2.1 x.2.2.2.2.2.2.1 x.2.2.2.2.2.2.2.1 x.2.2.2.2.2.2.2.2.1 x.2.2.2.2.2.2.2.2.2.1) K
noncomputable def L11_1 (K : Nat) : Lib := mkLib ti [(18, [e18 K]), (19, [e19 K]), (24, [e24 K]), (28, [e28 K]), (40, [e40 K]), (44, [e44 K]), (45, [e45 K])] [] 11 [(0, [n11_0 K])]
theorem lib11_1 (K : Nat) : LibOk Try.prog (L11_1 K) := libOk_mk (ents := [(18, [e18 K]), (19, [e19 K]), (24, [e24 K]), (28, [e28 K]), (40, [e40 K]), (44, [e44 K]), (45, [e45 K])]) (bodies := []) (loops := [(0, [n11_0 K])]) order tiOk ⟨one_ent (e18_ok K), one_ent (e19_ok K), one_ent (e24_ok K), one_ent (e28_ok K), one_ent (e40_ok K), one_ent (e44_ok K), one_ent (e45_ok K), trivial⟩ trivial Try.func11 rfl lp11 ⟨one_lent (n11_0_ok K), trivial⟩
noncomputable def implf11 (K : Nat) (x1 : (List Int)) : Option (Bool) :=
  (ob (implf18 K ((List.replicate 1 []).set 0 x1)) fun y1 => (bif y1 then (ob (implf19 K) fun y2 => some (y2)) else (if ((List.replicate 0 ((0 : Int))).length + x1.length) * 8 ≤ 140737488355328 then (ob (implf44 K (List.replicate 0 ((0 : Int)) ++ x1)) fun y3 => (ob (implf45 K x1) fun y4 => (ob (implf24 K y3.1 y4.1) fun y5 => (bif !y5 then some (false) else (bif y3.2 != y4.2 then some (false) else (bif y3.2 != (0 : Int) then (ob (implf19 K) fun y6 => some (y6)) else (ob (implf44 K y3.1) fun y7 => (ob (implf40 K x1 y3.1) fun y8 => (ob (implf28 K x1 y3.1) fun y9 => (ob (impll11_0 K K x1 (List.replicate 0 ((0 : Int)) ++ x1) y3.1 y7.1 y7.2 y8.1 y8.2 y9.1 y9.2 ((0 : Int))) fun y10 => (bif y7.2 == (0 : Int) then (ob (implf24 K y7.1 x1) fun y11 => (bif y11 then (bif y8.2 == (0 : Int) then (bif y8.1 then (bif y9.2 == (0 : Int) then (bif y9.1 then (ob (implf24 K (List.replicate 0 ((0 : Int)) ++ x1) x1) fun y12 => (bif y12 then (ob (implf19 K) fun y13 => some (y13)) else some (false))) else some (false)) else some (false)) else some (false)) else some (false)) else some (false))) else some (false)))))))))))) else none)))
theorem q11 (K : Nat) (x1 : (List Int)) : evFnK (α := Bool) (L11_1 K) 3 11 Try.f11.results.toList (codeOf Try.f11) ins11 res11 (fun p => p.1) (x1, ()) = implf11 K x1 := by kernel_rfl
noncomputable def e11 (K : Nat) : Ent := ⟨ins11, res11, Bool, fun x => implf11 K x.1, fun _ => (fun y => (y, (()))), false⟩
theorem e11_ok (K : Nat) : EntOk Try.prog 11 (e11 K) := entOk_k (ins := ins11) (rs := res11) (α := Bool) (lib11_1 K) (d := 3) Try.func11 rfl (by kernel_rfl) (by kernel_rfl) (by kernel_rfl) (fun x => implf11 K x.1) (fun p => p.1) (fun y => (y, (()))) (fun _ => rfl) (fun x => q11 K x.1)

/-! diaphone/echo.Missing -/
abbrev ins46 : Fs := [(.dat (.sl (.int .i64)), false)]
abbrev res46 : Sh := .cons (.own (.int .i64)) (.cons (.dat (.int .i64)) (.un))
theorem lp46 : loopsIn (codeOf Try.f46) 0 = [(0, loopOf 0 (codeOf Try.f46))] := by kernel_rfl
noncomputable def L46_0 (K : Nat) : Lib := mkLib ti [(32, [e32 K]), (70, [e70 K]), (100, [e100 K])] [(79, Try.f79)] 46 []
theorem lib46_0 (K : Nat) : LibOk Try.prog (L46_0 K) := libOk_mk (ents := [(32, [e32 K]), (70, [e70 K]), (100, [e100 K])]) (bodies := [(79, Try.f79)]) (loops := []) order tiOk ⟨one_ent (e32_ok K), one_ent (e70_ok K), one_ent (e100_ok K), trivial⟩ ⟨bod79, trivial⟩ Try.func46 rfl lp46 ⟨no_lent, trivial⟩
abbrev i46_0 : Fs := [(.dat (.sl (.int Go.IntKind.i64)), false), (.own (.int Go.IntKind.i64), false), (.own (.int .i64), true), (.dat (.int Go.IntKind.i64), true)]
noncomputable def implb46_0 (K : Nat) (rc : (List Int) → (List Int) → (List Int) → Int → Option ((List Int) × Int × Unit)) (x1 : (List Int)) (x2 : (List Int)) (x3 : (List Int)) (x4 : Int) : Option ((List Int) × Int × Unit) :=
  (if (0 : Int) ≤ IntKind.i64.wrap ((↑x1.length : Int) - (1 : Int)) ∧ IntKind.i64.wrap ((↑x1.length : Int) - (1 : Int)) < (↑x1.length : Int) then (if (0 : Int) ≤ (0 : Int) ∧ (0 : Int) < (↑x1.length : Int) then (bif decide (x4 < IntKind.i64.wrap (x1.getD (IntKind.i64.wrap ((↑x1.length : Int) - (1 : Int))).toNat ((0 : Int)) - x1.getD (0) ((0 : Int)))) then (ob (implf100 K x2 x4) fun y1 => (bif !decide (y1 ≥ (0 : Int)) then (if (x3.length + ((List.replicate 1 ((0 : Int))).set 0 x4).length) * 8 ≤ 140737488355328 then (rc x1 x2 (x3 ++ (List.replicate 1 ((0 : Int))).set 0 x4) (IntKind.i64.wrap (x4 + (1 : Int)))) else none) else (rc x1 x2 x3 (IntKind.i64.wrap (x4 + (1 : Int)))))) else some ((x3, x4, ()))) else none) else none)
noncomputable def impll46_0 (K : Nat) : Nat → (List Int) → (List Int) → (List Int) → Int → Option ((List Int) × Int × Unit)
  | 0, _, _, _, _ => none
  | k + 1, x1, x2, x3, x4 => implb46_0 K (impll46_0 K k) x1 x2 x3 x4
noncomputable def n46_0 (K : Nat) : Lent := ⟨[0, 5, 6, 7], i46_0, [15, 16, 17, 18, 19, 20, 21, 22, 23, 24, 25, 26, 29, 30, 31, 32, 33, 34, 35, 36, 27, 28], [0], false, res46, fun x => impll46_0 K K x.1 x.2.1 x.2.2.1 x.2.2.2.1, []⟩
theorem q46_0 (K : Nat) (rc : (List Int) → (List Int) → (List Int) → Int → Option ((List Int) × Int × Unit)) (x1 : (List Int)) (x2 : (List Int)) (x3 : (List Int)) (x4 : Int) : evLoop (L46_0 K) 3 46 Try.f46.results.toList (loopOf 0 (codeOf Try.f46)) 0 [0, 5, 6, 7] [] i46_0 [0] false res46 (fun x => rc x.1 x.2.1 x.2.2.1 x.2.2.2.1) (x1, x2, x3, x4, ()) = implb46_0 K rc x1 x2 x3 x4 := by kernel_rfl
theorem lp46_0 : loopsIn (loopOf 0 (codeOf Try.f46)) 0 = [] := by kernel_rfl
theorem n46_0_ok (K : Nat) : LentOk Try.prog Try.f46 (loopOf 0 (codeOf Try.f46)) (n46_0 K) := lentOk_k (slots := [0, 5, 6, 7]) (ali := []) (ins := i46_0) (writes := [15, 16, 17, 18, 19, 20, 21, 22, 23, 24, 25, 26, 29, 30, 31, 32, 33, 34, 35, 36, 27, 28]) (exits := [0]) (rets := false) (rs := res46) (d := 3) (lib46_0 K) lp46_0 trivial (by kernel_rfl) (by kernel_rfl) (by kernel_rfl) (by kernel_rfl) (by kernel_rfl) (fun k x => impll46_0 K k x.1 x.2.1 x.2.2.1 x.2.2.2.1) (fun _ => rfl) (fun k x => q46_0 K (impll46_0 K k) x.1 x.2.1 x.2.2.1 x.2.2.2.1) K
noncomputable def L46_1 (K : Nat) : Lib := mkLib ti [(32, [e32 K]), (70, [e70 K]), (100, [e100 K])] [(79, Try.f79)] 46 [(0, [n46_0 K])]
theorem lib46_1 (K : Nat) : LibOk Try.prog (L46_1 K) := libOk_mk (ents := [(32, [e32 K]), (70, [e70 K]), (100, [e100 K])]) (bodies := [(79, Try.f79)]) (loops := [(0, [n46_0 K])]) order tiOk ⟨one_ent (e32_ok K), one_ent (e70_ok K), one_ent (e100_ok K), trivial⟩ ⟨bod79, trivial⟩ Try.func46 rfl lp46 ⟨one_lent (n46_0_ok K), trivial⟩
noncomputable def implf46 (K : Nat) (x1 : (List Int)) : Option ((List Int) × Int) :=
  (ob (implf32 K x1) fun y1 => (bif y1 != (0 : Int) then some (([], y1)) else (ob (implf70 K x1) fun y2 => (ob (impll46_0 K K x1 y2 [] ((1 : Int))) fun y3 => some ((y3.1, (0 : Int)))))))
theorem q46 (K : Nat) (x1 : (List Int)) : evFnK (α := (List Int) × Int) (L46_1 K) 3 46 Try.f46.results.toList (codeOf Try.f46) ins46 res46 (fun p => (p.1.1, p.1.2.1)) (x1, ()) = implf46 K x1 := by kernel_rfl
noncomputable def e46 (K : Nat) : Ent := ⟨ins46, res46, (List Int) × Int, fun x => implf46 K x.1, fun _ => (fun y => ((y.1, y.2, ()), (()))), false⟩
theorem e46_ok (K : Nat) : EntOk Try.prog 46 (e46 K) := entOk_k (ins := ins46) (rs := res46) (α := (List Int) × Int) (lib46_1 K) (d := 3) Try.func46 rfl (by kernel_rfl) (by kernel_rfl) (by kernel_rfl) (fun x => implf46 K x.1) (fun p => (p.1.1, p.1.2.1)) (fun y => ((y.1, y.2, ()), (()))) (fun _ => rfl) (fun x => q46 K x.1)

/-! diaphone/diaphoneref05.Has -/
abbrev ins80 : Fs := [(.dat (.sl (.int .i64)), false), (.dat (.int .i64), false)]
abbrev res80 : Sh := .dat (.bool)
theorem lp80 : loopsIn (codeOf Try.f80) 0 = [(0, loopOf 0 (codeOf Try.f80))] := by kernel_rfl
noncomputable def L80_0 (K : Nat) : Lib := mkLib ti [] [] 80 []
theorem lib80_0 (K : Nat) : LibOk Try.prog (L80_0 K) := libOk_mk (ents := []) (bodies := []) (loops := []) order tiOk trivial trivial Try.func80 rfl lp80 ⟨no_lent, trivial⟩
abbrev i80_0 : Fs := [(.dat (.sl (.int Go.IntKind.i64)), false), (.dat (.int Go.IntKind.i64), false), (.dat (.int Go.IntKind.i64), true)]
noncomputable def implb80_0 (K : Nat) (rc : (List Int) → Int → Int → Option (Sum (Int × Unit) Bool)) (x1 : (List Int)) (x2 : Int) (x3 : Int) : Option (Sum (Int × Unit) Bool) :=
  (bif decide (x3 < (↑x1.length : Int)) then (if (0 : Int) ≤ x3 ∧ x3 < (↑x1.length : Int) then (bif x1.getD x3.toNat ((0 : Int)) == x2 then some (Sum.inr true) else (rc x1 x2 (IntKind.i64.wrap (x3 + (1 : Int))))) else none) else some (Sum.inl (x3, ())))
noncomputable def impll80_0 (K : Nat) : Nat → (List Int) → Int → Int → Option (Sum (Int × Unit) Bool)
  | 0, _, _, _ => none
  | k + 1, x1, x2, x3 => implb80_0 K (impll80_0 K k) x1 x2 x3
noncomputable def n80_0 (K : Nat) : Lent := ⟨[0, 1, 5], i80_0, [6, 7, 8, 9, 12, 13, 14, 15, 16, 17, 4, 10, 11], [0], true, res80, fun x => impll80_0 K K x.1 x.2.1 x.2.2.1, []⟩
theorem q80_0 (K : Nat) (rc : (List Int) → Int → Int → Option (Sum (Int × Unit) Bool)) (x1 : (List Int)) (x2 : Int) (x3 : Int) : evLoop (L80_0 K) 3 80 Try.f80.results.toList (loopOf 0 (codeOf Try.f80)) 0 [0, 1, 5] [] i80_0 [0] true res80 (fun x => rc x.1 x.2.1 x.2.2.1) (x1, x2, x3, ()) = implb80_0 K rc x1 x2 x3 := by kernel_rfl
theorem lp80_0 : loopsIn (loopOf 0 (codeOf Try.f80)) 0 = [] := by kernel_rfl
theorem n80_0_ok (K : Nat) : LentOk Try.prog Try.f80 (loopOf 0 (codeOf Try.f80)) (n80_0 K) := lentOk_k (slots := [0, 1, 5]) (ali := []) (ins := i80_0) (writes := [6, 7, 8, 9, 12, 13, 14, 15, 16, 17, 4, 10, 11]) (exits := [0]) (rets := true) (rs := res80) (d := 3) (lib80_0 K) lp80_0 trivial (by kernel_rfl) (by kernel_rfl) (by kernel_rfl) (by kernel_rfl) (by kernel_rfl) (fun k x => impll80_0 K k x.1 x.2.1 x.2.2.1) (fun _ => rfl) (fun k x => q80_0 K (impll80_0 K k) x.1 x.2.1 x.2.2.1) K
noncomputable def L80_1 (K : Nat) : Lib := mkLib ti [] [] 80 [(0, [n80_0 K])]
theorem lib80_1 (K : Nat) : LibOk Try.prog (L80_1 K) := libOk_mk (ents := []) (bodies := []) (loops := [(0, [n80_0 K])]) order tiOk trivial trivial Try.func80 rfl lp80 ⟨one_lent (n80_0_ok K), trivial⟩
noncomputable def implf80 (K : Nat) (x1 : (List Int)) (x2 : Int) : Option (Bool) :=
  (ob (impll80_0 K K x1 x2 ((0 : Int))) fun y1 => (match y1 with | .inl y2 => some (false) | .inr y2 => some (y2)))
theorem q80 (K : Nat) (x1 : (List Int)) (x2 : Int) : evFnK (α := Bool) (L80_1 K) 3 80 Try.f80.results.toList (codeOf Try.f80) ins80 res80 (fun p => p.1) (x1, x2, ()) = implf80 K x1 x2 := by kernel_rfl
noncomputable def e80 (K : Nat) : Ent := ⟨ins80, res80, Bool, fun x => implf80 K x.1 x.2.1, fun _ => (fun y => (y, (()))), false⟩
theorem e80_ok (K : Nat) : EntOk Try.prog 80 (e80 K) := entOk_k (ins := ins80) (rs := res80) (α := Bool) (lib80_1 K) (d := 3) Try.func80 rfl (by kernel_rfl) (by kernel_rfl) (by kernel_rfl) (fun x => implf80 K x.1 x.2.1) (fun p => p.1) (fun y => (y, (()))) (fun _ => rfl) (fun x => q80 K x.1 x.2.1)

/-! diaphone/diaphoneref05.Missing -/
abbrev ins47 : Fs := [(.dat (.sl (.int .i64)), false)]
abbrev res47 : Sh := .cons (.own (.int .i64)) (.cons (.dat (.int .i64)) (.un))
theorem lp47 : loopsIn (codeOf Try.f47) 0 = [(0, loopOf 0 (codeOf Try.f47))] := by kernel_rfl
noncomputable def L47_0 (K : Nat) : Lib := mkLib ti [(33, [e33 K]), (71, [e71 K]), (80, [e80 K])] [] 47 []
theorem lib47_0 (K : Nat) : LibOk Try.prog (L47_0 K) := libOk_mk (ents := [(33, [e33 K]), (71, [e71 K]), (80, [e80 K])]) (bodies := []) (loops := []) order tiOk ⟨one_ent (e33_ok K), one_ent (e71_ok K), one_ent (e80_ok K), trivial⟩ trivial Try.func47 rfl lp47 ⟨no_lent, trivial⟩
abbrev i47_0 : Fs := [(.dat (.sl (.int Go.IntKind.i64)), false), (.own (.int Go.IntKind.i64), false), (.own (.int .i64), true), (.dat (.int Go.IntKind.i64), true)]
noncomputable def implb47_0 (K : Nat) (rc : (List Int) → (List Int) → (List Int) → Int → Option ((List Int) × Int × Unit)) (x1 : (List Int)) (x2 : (List Int)) (x3 : (List Int)) (x4 : Int) : Option ((List Int) × Int × Unit) :=
  (if (0 : Int) ≤ IntKind.i64.wrap ((↑x1.length : Int) - (1 : Int)) ∧ IntKind.i64.wrap ((↑x1.length : Int) - (1 : Int)) < (↑x1.length : Int) then (if (0 : Int) ≤ (0 : Int) ∧ (0 : Int) < (↑x1.length : Int) then (bif decide (x4 < IntKind.i64.wrap (x1.getD (IntKind.i64.wrap ((↑x1.length : Int) - (1 : Int))).toNat ((0 : Int)) - x1.getD (0) ((0 : Int)))) then (ob (implf80 K x2 x4) fun y1 => (bif !y1 then (if (x3.length + ((List.replicate 1 ((0 : Int))).set 0 x4).length) * 8 ≤ 140737488355328 then (rc x1 x2 (x3 ++ (List.replicate 1 ((0 : Int))).set 0 x4) (IntKind.i64.wrap (x4 + (1 : Int)))) else none) else (rc x1 x2 x3 (IntKind.i64.wrap (x4 + (1 : Int)))))) else some ((x3, x4, ()))) else none) else none)
noncomputable def impll47_0 (K : Nat) : Nat → (List Int) → (List Int) → (List Int) → Int → Option ((List Int) × Int × Unit)
  | 0, _, _, _, _ => none
  | k + 1, x1, x2, x3, x4 => implb47_0 K (impll47_0 K k) x1 x2 x3 x4
noncomputable def n47_0 (K : Nat) : Lent := ⟨[0, 5, 6, 7], i47_0, [15, 16, 17, 18, 19, 20, 21, 22, 23, 24, 25, 26, 29, 30, 31, 32, 33, 34, 35, 36, 27, 28], [0], false, res47, fun x => impll47_0 K K x.1 x.2.1 x.2.2.1 x.2.2.2.1, []⟩
theorem q47_0 (K : Nat) (rc : (List Int) → (List Int) → (List Int) → Int → Option ((List Int) × Int × Unit)) (x1 : (List Int)) (x2 : (List Int)) (x3 : (List Int)) (x4 : Int) : evLoop (L47_0 K) 3 47 Try.f47.results.toList (loopOf 0 (codeOf Try.f47)) 0 [0, 5, 6, 7] [] i47_0 [0] false res47 (fun x => rc x.1 x.2.1 x.2.2.1 x.2.2.2.1) (x1, x2, x3, x4, ()) = implb47_0 K rc x1 x2 x3 x4 := by kernel_rfl
theorem lp47_0 : loopsIn (loopOf 0 (codeOf Try.f47)) 0 = [] := by kernel_rfl
theorem n47_0_ok (K : Nat) : LentOk Try.prog Try.f47 (loopOf 0 (codeOf Try.f47)) (n47_0 K) := lentOk_k (slots := [0, 5, 6, 7]) (ali := []) (ins := i47_0) (writes := [15, 16, 17, 18, 19, 20, 21, 22, 23, 24, 25, 26, 29, 30, 31, 32, 33, 34, 35, 36, 27, 28]) (exits := [0]) (rets := false) (rs := res47) (d := 3) (lib47_0 K) lp47_0 trivial (by kernel_rfl) (by kernel_rfl) (by kernel_rfl) (by kernel_rfl) (by kernel_rfl) (fun k x => impll47_0 K k x.1 x.2.1 x.2.2.1 x.2.2.2.1) (fun _ => rfl) (fun k x => q47_0 K (impll47_0 K k) x.1 x.2.1 x.2.2.1 x.2.2.2.1) K
noncomputable def L47_1 (K : Nat) : Lib := mkLib ti [(33, [e33 K]), (71, [e71 K]), (80, [e80 K])] [] 47 [(0, [n47_0 K])]
theorem lib47_1 (K : Nat) : LibOk Try.prog (L47_1 K) := libOk_mk (ents := [(33, [e33 K]), (71, [e71 K]), (80, [e80 K])]) (bodies := []) (loops := [(0, [n47_0 K])]) order tiOk ⟨one_ent (e33_ok K), one_ent (e71_ok K), one_ent (e80_ok K), trivial⟩ trivial Try.func47 rfl lp47 ⟨one_lent (n47_0_ok K), trivial⟩
noncomputable def implf47 (K : Nat) (x1 : (List Int)) : Option ((List Int) × Int) :=
  (ob (implf33 K x1) fun y1 => (bif y1 != (0 : Int) then some (([], y1)) else (ob (implf71 K x1) fun y2 => (ob (impll47_0 K K x1 y2 [] ((1 : Int))) fun y3 => some ((y3.1, (0 : Int)))))))
theorem q47 (K : Nat) (x1 : (List Int)) : evFnK (α := (List Int) × Int) (L47_1 K) 3 47 Try.f47.results.toList (codeOf Try.f47) ins47 res47 (fun p => (p.1.1, p.1.2.1)) (x1, ()) = implf47 K x1 := by kernel_rfl
noncomputable def e47 (K : Nat) : Ent := ⟨ins47, res47, (List Int) × Int, fun x => implf47 K x.1, fun _ => (fun y => ((y.1, y.2, ()), (()))), false⟩
theorem e47_ok (K : Nat) : EntOk Try.prog 47 (e47 K) := entOk_k (ins := ins47) (rs := res47) (α := (List Int) × Int) (lib47_1 K) (d := 3) Try.func47 rfl (by kernel_rfl) (by kernel_rfl) (by kernel_rfl) (fun x => implf47 K x.1) (fun p => (p.1.1, p.1.2.1)) (fun y => ((y.1, y.2, ()), (()))) (fun _ => rfl) (fun x => q47 K x.1)

/-! diaphone/diaphonelaw05.EchoMissing -/
abbrev ins12 : Fs := [(.dat (.sl (.int .i64)), false)]
abbrev res12 : Sh := .dat (.bool)
theorem lp12 : loopsIn (codeOf Try.f12) 0 = [(0, loopOf 0 (codeOf Try.f12))] := by kernel_rfl
noncomputable def L12_0 (K : Nat) : Lib := mkLib ti [(18, [e18 K]), (19, [e19 K]), (24, [e24 K]), (29, [e29 K]), (46, [e46 K]), (47, [e47 K])] [] 12 []
theorem lib12_0 (K : Nat) : LibOk Try.prog (L12_0 K) := libOk_mk (ents := [(18, [e18 K]), (19, [e19 K]), (24, [e24 K]), (29, [e29 K]), (46, [e46 K]), (47, [e47 K])]) (bodies := []) (loops := []) order tiOk ⟨one_ent (e18_ok K), one_ent (e19_ok K), one_ent (e24_ok K), one_ent (e29_ok K), one_ent (e46_ok K), one_ent (e47_ok K), trivial⟩ trivial Try.func12 rfl lp12 ⟨no_lent, trivial⟩
abbrev i12_0 : Fs := [(.dat (.sl (.int Go.IntKind.i64)), false), (.own (.int Go.IntKind.i64), false), (.own (.int Go.IntKind.i64), false), (.dat (.int Go.IntKind.i64), false), (.dat (.int Go.IntKind.i64), true), (.dat (.int Go.IntKind.i64), true)]
noncomputable def implb12_0 (K : Nat) (rc : (List Int) → (List Int) → (List Int) → Int → Int → Int → Option (Int × Int × Unit)) (x1 : (List Int)) (x2 : (List Int)) (x3 : (List Int)) (x4 : Int) (x5 : Int) (x6 : Int) : Option (Int × Int × Unit) :=
  (bif decide (x6 < (↑x3.length : Int)) then (bif x6 == (0 : Int) then (rc x1 x2 x3 x4 (IntKind.i64.wrap (x5 + (1 : Int))) (IntKind.i64.wrap (x6 + (1 : Int)))) else (if (0 : Int) ≤ x6 ∧ x6 < (↑x3.length : Int) then (if (0 : Int) ≤ IntKind.i64.wrap (x6 - (1 : Int)) ∧ IntKind.i64.wrap (x6 - (1 : Int)) < (↑x3.length : Int) then (bif x3.getD x6.toNat ((0 : Int)) != x3.getD (IntKind.i64.wrap (x6 - (1 : Int))).toNat ((0 : Int)) then (rc x1 x2 x3 x4 (IntKind.i64.wrap (x5 + (1 : Int))) (IntKind.i64.wrap (x6 + (1 : Int)))) else (rc x1 x2 x3 x4 x5 (IntKind.i64.wrap (x6 + (1 : Int))))) else none) else none)) else some ((x5, x6, ())))
noncomputable def impll12_0 (K : Nat) : Nat → (List Int) → (List Int) → (List Int) → Int → Int → Int → Option (Int × Int × Unit)
  | 0, _, _, _, _, _, _ => none
  | k + 1, x1, x2, x3, x4, x5, x6 => implb12_0 K (impll12_0 K k) x1 x2 x3 x4 x5 x6
noncomputable def n12_0 (K : Nat) : Lent := ⟨[0, 3, 7, 8, 9, 10], i12_0, [42, 43, 44, 45, 48, 49, 50, 51, 52, 53, 54, 55, 56, 57, 58, 59, 60, 61, 62, 63, 46, 47], [0], false, res12, fun x => impll12_0 K K x.1 x.2.1 x.2.2.1 x.2.2.2.1 x.2.2.2.2.1 x.2.2.2.2.2.1, []⟩
theorem q12_0 (K : Nat) (rc : (List Int) → (List Int) → (List Int) → Int → Int → Int → Option (Int × Int × Unit)) (x1 : (List Int)) (x2 : (List Int)) (x3 : (List Int)) (x4 : Int) (x5 : Int) (x6 : Int) : evLoop (L12_0 K) 3 12 Try.f12.results.toList (loopOf 0 (codeOf Try.f12)) 0 [0, 3, 7, 8, 9, 10] [] i12_0 [0] false res12 (fun x => rc x.1 x.2.1 x.2.2.1 x.2.2.2.1 x.2.2.2.2.1 x.2.2.2.2.2.1) (x1, x2, x3, x4, x5, x6, ()) = implb12_0 K rc x1 x2 x3 x4 x5 x6 := by kernel_rfl
theorem lp12_0 : loopsIn (loopOf 0 (codeOf Try.f12)) 0 = [] := by kernel_rfl
theorem n12_0_ok (K : Nat) : LentOk Try.prog Try.f12 (loopOf 0 (codeOf Try.f12)) (n12_0 K) := lentOk_k (slots := [0, 3, 7, 8, 9, 10]) (ali := []) (ins := i12_0) (writes := [42, 43, 44, 45, 48, 49, 50, 51, 52, 53, 54, 55, 56, 57, 58, 59, 60, 61, 62, 63, 46, 47]) (exits := [0]) (rets := false) (rs := res12) (d := 3) (lib12_0 K) lp12_0 trivial (by kernel_rfl) (by kernel_rfl) (by kernel_rfl) (by kernel_rfl) (by kernel_rfl) (fun k x => impll12_0 K k x.1 x.2.1 x.2.2.1 x.2.2.2.1 x.2.2.2.2.1 x.2.2.2.2.2.1) (fun _ => rfl) (fun k x => q12_0 K (impll12_0 K k) x.1 x.2.1 x.2.2.1 x.2.2.2.1 x.2.2.2.2.1 x.2.2.2.2.2.1) K
noncomputable def L12_1 (K : Nat) : Lib := mkLib ti [(18, [e18 K]), (19, [e19 K]), (24, [e24 K]), (29, [e29 K]), (46, [e46 K]), (47, [e47 K])] [] 12 [(0, [n12_0 K])]
theorem lib12_1 (K : Nat) : LibOk Try.prog (L12_1 K) := libOk_mk (ents := [(18, [e18 K]), (19, [e19 K]), (24, [e24 K]), (29, [e29 K]), (46, [e46 K]), (47, [e47 K])]) (bodies := []) (loops := [(0, [n12_0 K])]) order tiOk ⟨one_ent (e18_ok K), one_ent (e19_ok K), one_ent (e24_ok K), one_ent (e29_ok K), one_ent (e46_ok K), one_ent (e47_ok K), trivial⟩ trivial Try.func12 rfl lp12 ⟨one_lent (n12_0_ok K), trivial⟩
noncomputable def implf12 (K : Nat) (x1 : (List Int)) : Option (Bool) :=
  (ob (implf18 K ((List.replicate 1 []).set 0 x1)) fun y1 => (bif y1 then (ob (implf19 K) fun y2 => some (y2)) else (ob (implf46 K x1) fun y3 => (ob (implf47 K x1) fun y4 => (ob (implf24 K y3.1 y4.1) fun y5 => (bif !y5 then some (false) else (bif y3.2 != y4.2 then some (false) else (ob (implf29 K x1) fun y6 => (bif y3.2 != (0 : Int) then (ob (implf19 K) fun y7 => some (y7)) else (ob (impll12_0 K K x1 y3.1 y6.1 y6.2 ((0 : Int)) ((0 : Int))) fun y8 => (bif y6.2 == (0 : Int) then (if (0 : Int) ≤ IntKind.i64.wrap ((↑x1.length : Int) - (1 : Int)) ∧ IntKind.i64.wrap ((↑x1.length : Int) - (1 : Int)) < (↑x1.length : Int) then (if (0 : Int) ≤ (0 : Int) ∧ (0 : Int) < (↑x1.length : Int) then (bif IntKind.i64.wrap (y8.1 + (↑y3.1.length : Int)) == IntKind.i64.wrap (x1.getD (IntKind.i64.wrap ((↑x1.length : Int) - (1 : Int))).toNat ((0 : Int)) - x1.getD (0) ((0 : Int))) then (ob (implf19 K) fun y9 => some (y9)) else some (false)) else none) else none) else some (false))))))))))))
theorem q12 (K : Nat) (x1 : (List Int)) : evFnK (α := Bool) (L12_1 K) 3 12 Try.f12.results.toList (codeOf Try.f12) ins12 res12 (fun p => p.1) (x1, ()) = implf12 K x1 := by kernel_rfl
noncomputable def e12 (K : Nat) : Ent := ⟨ins12, res12, Bool, fun x => implf12 K x.1, fun _ => (fun y => (y, (()))), false⟩
theorem e12_ok (K : Nat) : EntOk Try.prog 12 (e12 K) := entOk_k (ins := ins12) (rs := res12) (α := Bool) (lib12_1 K) (d := 3) Try.func12 rfl (by kernel_rfl) (by kernel_rfl) (by kernel_rfl) (fun x => implf12 K x.1) (fun p => p.1) (fun y => (y, (()))) (fun _ => rfl) (fun x => q12 K x.1)

/-! diaphone/echo.Heard -/
abbrev ins48 : Fs := [(.dat (.sl (.int .i64)), false), (.dat (.int .i64), false)]
abbrev res48 : Sh := .cons (.own (.int .i64)) (.cons (.dat (.int .i64)) (.un))
theorem lp48 : loopsIn (codeOf Try.f48) 0 = [(0, loopOf 0 (codeOf Try.f48))] := by kernel_rfl
noncomputable def L48_0 (K : Nat) : Lib := mkLib ti [(32, [e32 K]), (61, [e61 K]), (81, [e81 K])] [] 48 []
theorem lib48_0 (K : Nat) : LibOk Try.prog (L48_0 K) := libOk_mk (ents := [(32, [e32 K]), (61, [e61 K]), (81, [e81 K])]) (bodies := []) (loops := []) order tiOk ⟨one_ent (e32_ok K), one_ent (e61_ok K), one_ent (e81_ok K), trivial⟩ trivial Try.func48 rfl lp48 ⟨no_lent, trivial⟩
abbrev i48_0 : Fs := [(.dat (.int Go.IntKind.i64), false), (.own (.int .i64), true), (.dat (.sl (.int Go.IntKind.i64)), false), (.dat (.int Go.IntKind.i64), false), (.dat (.int Go.IntKind.i64), true)]
noncomputable def implb48_0 (K : Nat) (rc : Int → (List Int) → (List Int) → Int → Int → Option ((List Int) × Int × Unit)) (x1 : Int) (x2 : (List Int)) (x3 : (List Int)) (x4 : Int) (x5 : Int) : Option ((List Int) × Int × Unit) :=
  (bif decide (x5 < x4) then (if (0 : Int) ≤ x5 ∧ x5 < (↑x3.length : Int) then (if (x2.length + ((List.replicate 1 ((0 : Int))).set 0 (IntKind.i64.wrap ((2 : Int) * max (IntKind.i64.wrap (x3.getD x5.toNat ((0 : Int)) - x1)) (IntKind.i64.wrap (x1 - x3.getD x5.toNat ((0 : Int))))))).length) * 8 ≤ 140737488355328 then (rc x1 (x2 ++ (List.replicate 1 ((0 : Int))).set 0 (IntKind.i64.wrap ((2 : Int) * max (IntKind.i64.wrap (x3.getD x5.toNat ((0 : Int)) - x1)) (IntKind.i64.wrap (x1 - x3.getD x5.toNat ((0 : Int))))))) x3 x4 (IntKind.i64.wrap (x5 + (1 : Int)))) else none) else none) else some ((x2, x5, ())))
noncomputable def impll48_0 (K : Nat) : Nat → Int → (List Int) → (List Int) → Int → Int → Option ((List Int) × Int × Unit)
  | 0, _, _, _, _, _ => none
  | k + 1, x1, x2, x3, x4, x5 => implb48_0 K (impll48_0 K k) x1 x2 x3 x4 x5
noncomputable def n48_0 (K : Nat) : Lent := ⟨[1, 7, 18, 19, 20], i48_0, [21, 22, 23, 9, 24, 25, 26, 27, 28, 29, 30, 31, 32, 33, 34, 35], [0], false, res48, fun x => impll48_0 K K x.1 x.2.1 x.2.2.1 x.2.2.2.1 x.2.2.2.2.1, []⟩
theorem q48_0 (K : Nat) (rc : Int → (List Int) → (List Int) → Int → Int → Option ((List Int) × Int × Unit)) (x1 : Int) (x2 : (List Int)) (x3 : (List Int)) (x4 : Int) (x5 : Int) : evLoop (L48_0 K) 3 48 Try.f48.results.toList (loopOf 0 (codeOf Try.f48)) 0 [1, 7, 18, 19, 20] [] i48_0 [0] false res48 (fun x => rc x.1 x.2.1 x.2.2.1 x.2.2.2.1 x.2.2.2.2.1) (x1, x2, x3, x4, x5, ()) = implb48_0 K rc x1 x2 x3 x4 x5 := by kernel_rfl
theorem lp48_0 : loopsIn (loopOf 0 (codeOf Try.f48)) 0 = [] := by kernel_rfl
theorem n48_0_ok (K : Nat) : LentOk Try.prog Try.f48 (loopOf 0 (codeOf Try.f48)) (n48_0 K) := lentOk_k (slots := [1, 7, 18, 19, 20]) (ali := []) (ins := i48_0) (writes := [21, 22, 23, 9, 24, 25, 26, 27, 28, 29, 30, 31, 32, 33, 34, 35]) (exits := [0]) (rets := false) (rs := res48) (d := 3) (lib48_0 K) lp48_0 trivial (by kernel_rfl) (by kernel_rfl) (by kernel_rfl) (by kernel_rfl) (by kernel_rfl) (fun k x => impll48_0 K k x.1 x.2.1 x.2.2.1 x.2.2.2.1 x.2.2.2.2.1) (fun _ => rfl) (fun k x => q48_0 K (impll48_0 K k) x.1 x.2.1 x.2.2.1 x.2.2.2.1 x.2.2.2.2.1) K
noncomputable def L48_1 (K : Nat) : Lib := mkLib ti [(32, [e32 K]), (61, [e61 K]), (81, [e81 K])] [] 48 [(0, [n48_0 K])]
theorem lib48_1 (K : Nat) : LibOk Try.prog (L48_1 K) := libOk_mk (ents := [(32, [e32 K]), (61, [e61 K]), (81, [e81 K])]) (bodies := []) (loops := [(0, [n48_0 K])]) order tiOk ⟨one_ent (e32_ok K), one_ent (e61_ok K), one_ent (e81_ok K), trivial⟩ trivial Try.func48 rfl lp48 ⟨one_lent (n48_0_ok K), trivial⟩
noncomputable def implf48 (K : Nat) (x1 : (List Int)) (x2 : Int) : Option ((List Int) × Int) :=
  (ob (implf32 K x1) fun y1 => (bif y1 != (0 : Int) then some (([], y1)) else (ob (implf61 K x2 (-1000 : Int) ((1000 : Int))) fun y2 => (bif !y2 then some (([], (1 : Int))) else (ob (impll48_0 K K x2 [] x1 ((↑x1.length : Int)) ((0 : Int))) fun y3 => (ob (implf81 K y3.1) fun y4 => some ((y4, (0 : Int)))))))))
theorem q48 (K : Nat) (x1 : (List Int)) (x2 : Int) : evFnK (α := (List Int) × Int) (L48_1 K) 3 48 Try.f48.results.toList (codeOf Try.f48) ins48 res48 (fun p => (p.1.1, p.1.2.1)) (x1, x2, ()) = implf48 K x1 x2 := by kernel_rfl
noncomputable def e48 (K : Nat) : Ent := ⟨ins48, res48, (List Int) × Int, fun x => implf48 K x.1 x.2.1, fun _ => (fun y => ((y.1, y.2, ()), (()))), false⟩
theorem e48_ok (K : Nat) : EntOk Try.prog 48 (e48 K) := entOk_k (ins := ins48) (rs := res48) (α := (List Int) × Int) (lib48_1 K) (d := 3) Try.func48 rfl (by kernel_rfl) (by kernel_rfl) (by kernel_rfl) (fun x => implf48 K x.1 x.2.1) (fun p => (p.1.1, p.1.2.1)) (fun y => ((y.1, y.2, ()), (()))) (fun _ => rfl) (fun x => q48 K x.1 x.2.1)

/-! diaphone/diaphoneref05.Heard -/
abbrev ins49 : Fs := [(.dat (.sl (.int .i64)), false), (.dat (.int .i64), false)]
abbrev res49 : Sh := .cons (.own (.int .i64)) (.cons (.dat (.int .i64)) (.un))
theorem lp49 : loopsIn (codeOf Try.f49) 0 = [(0, loopOf 0 (codeOf Try.f49))] := by kernel_rfl
noncomputable def L49_0 (K : Nat) : Lib := mkLib ti [(33, [e33 K]), (63, [e63 K]), (82, [e82 K])] [] 49 []
theorem lib49_0 (K : Nat) : LibOk Try.prog (L49_0 K) := libOk_mk (ents := [(33, [e33 K]), (63, [e63 K]), (82, [e82 K])]) (bodies := []) (loops := []) order tiOk ⟨one_ent (e33_ok K), one_ent (e63_ok K), one_ent (e82_ok K), trivial⟩ trivial Try.func49 rfl lp49 ⟨no_lent, trivial⟩
abbrev i49_0 : Fs := [(.dat (.sl (.int Go.IntKind.i64)), false), (.dat (.int Go.IntKind.i64), false), (.own (.int .i64), true), (.dat (.int Go.IntKind.i64), true)]
noncomputable def implb49_0 (K : Nat) (rc : (List Int) → Int → (List Int) → Int → Option ((List Int) × Int × Unit)) (x1 : (List Int)) (x2 : Int) (x3 : (List Int)) (x4 : Int) : Option ((List Int) × Int × Unit) :=
  (bif decide (x4 < (↑x1.length : Int)) then (if (0 : Int) ≤ x4 ∧ x4 < (↑x1.length : Int) then (if (0 : Int) ≤ x4 ∧ x4 < (↑x1.length : Int) then (if (x3.length + ((List.replicate 1 ((0 : Int))).set 0 (IntKind.i64.wrap ((2 : Int) * max (IntKind.i64.wrap (x1.getD x4.toNat ((0 : Int)) - x2)) (IntKind.i64.wrap (x2 - x1.getD x4.toNat ((0 : Int))))))).length) * 8 ≤ 140737488355328 then (rc x1 x2 (x3 ++ (List.replicate 1 ((0 : Int))).set 0 (IntKind.i64.wrap ((2 : Int) * max (IntKind.i64.wrap (x1.getD x4.toNat ((0 : Int)) - x2)) (IntKind.i64.wrap (x2 - x1.getD x4.toNat ((0 : Int))))))) (IntKind.i64.wrap (x4 + (1 : Int)))) else none) else none) else none) else some ((x3, x4, ())))
noncomputable def impll49_0 (K : Nat) : Nat → (List Int) → Int → (List Int) → Int → Option ((List Int) × Int × Unit)
  | 0, _, _, _, _ => none
  | k + 1, x1, x2, x3, x4 => implb49_0 K (impll49_0 K k) x1 x2 x3 x4
noncomputable def n49_0 (K : Nat) : Lent := ⟨[0, 1, 7, 8], i49_0, [17, 18, 19, 20, 23, 24, 25, 26, 27, 28, 29, 30, 31, 32, 33, 34, 35, 36, 37, 38, 39, 21, 22], [0], false, res49, fun x => impll49_0 K K x.1 x.2.1 x.2.2.1 x.2.2.2.1, []⟩
theorem q49_0 (K : Nat) (rc : (List Int) → Int → (List Int) → Int → Option ((List Int) × Int × Unit)) (x1 : (List Int)) (x2 : Int) (x3 : (List Int)) (x4 : Int) : evLoop (L49_0 K) 3 49 Try.f49.results.toList (loopOf 0 (codeOf Try.f49)) 0 [0, 1, 7, 8] [] i49_0 [0] false res49 (fun x => rc x.1 x.2.1 x.2.2.1 x.2.2.2.1) (x1, x2, x3, x4, ()) = implb49_0 K rc x1 x2 x3 x4 := by kernel_rfl
theorem lp49_0 : loopsIn (loopOf 0 (codeOf Try.f49)) 0 = [] := by kernel_rfl
theorem n49_0_ok (K : Nat) : LentOk Try.prog Try.f49 (loopOf 0 (codeOf Try.f49)) (n49_0 K) := lentOk_k (slots := [0, 1, 7, 8]) (ali := []) (ins := i49_0) (writes := [17, 18, 19, 20, 23, 24, 25, 26, 27, 28, 29, 30, 31, 32, 33, 34, 35, 36, 37, 38, 39, 21, 22]) (exits := [0]) (rets := false) (rs := res49) (d := 3) (lib49_0 K) lp49_0 trivial (by kernel_rfl) (by kernel_rfl) (by kernel_rfl) (by kernel_rfl) (by kernel_rfl) (fun k x => impll49_0 K k x.1 x.2.1 x.2.2.1 x.2.2.2.1) (fun _ => rfl) (fun k x => q49_0 K (impll49_0 K k) x.1 x.2.1 x.2.2.1 x.2.2.2.1) K
noncomputable def L49_1 (K : Nat) : Lib := mkLib ti [(33, [e33 K]), (63, [e63 K]), (82, [e82 K])] [] 49 [(0, [n49_0 K])]
theorem lib49_1 (K : Nat) : LibOk Try.prog (L49_1 K) := libOk_mk (ents := [(33, [e33 K]), (63, [e63 K]), (82, [e82 K])]) (bodies := []) (loops := [(0, [n49_0 K])]) order tiOk ⟨one_ent (e33_ok K), one_ent (e63_ok K), one_ent (e82_ok K), trivial⟩ trivial Try.func49 rfl lp49 ⟨one_lent (n49_0_ok K), trivial⟩
noncomputable def implf49 (K : Nat) (x1 : (List Int)) (x2 : Int) : Option ((List Int) × Int) :=
  (ob (implf33 K x1) fun y1 => (bif y1 != (0 : Int) then some (([], y1)) else (ob (implf63 K x2 (-1000 : Int) ((1000 : Int))) fun y2 => (bif !y2 then some (([], (1 : Int))) else (ob (impll49_0 K K x1 x2 [] ((0 : Int))) fun y3 => (ob (implf82 K y3.1) fun y4 => some ((y4, (0 : Int)))))))))
theorem q49 (K : Nat) (x1 : (List Int)) (x2 : Int) : evFnK (α := (List Int) × Int) (L49_1 K) 3 49 Try.f49.results.toList (codeOf Try.f49) ins49 res49 (fun p => (p.1.1, p.1.2.1)) (x1, x2, ()) = implf49 K x1 x2 := by kernel_rfl
noncomputable def e49 (K : Nat) : Ent := ⟨ins49, res49, (List Int) × Int, fun x => implf49 K x.1 x.2.1, fun _ => (fun y => ((y.1, y.2, ()), (()))), false⟩
theorem e49_ok (K : Nat) : EntOk Try.prog 49 (e49 K) := entOk_k (ins := ins49) (rs := res49) (α := (List Int) × Int) (lib49_1 K) (d := 3) Try.func49 rfl (by kernel_rfl) (by kernel_rfl) (by kernel_rfl) (fun x => implf49 K x.1 x.2.1) (fun p => (p.1.1, p.1.2.1)) (fun y => ((y.1, y.2, ()), (()))) (fun _ => rfl) (fun x => q49 K x.1 x.2.1)

end Go.Proofs.Ytdgibokmaannjaa
