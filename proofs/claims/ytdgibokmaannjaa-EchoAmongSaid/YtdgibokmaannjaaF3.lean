/- What the functions compute: printed by a program of this claim's author. -/
import Derived.Test.YtdgibokmaannjaaF2
set_option maxRecDepth 100000
set_option linter.unusedVariables false
set_option linter.unusedSimpArgs false
namespace Go.Proofs.Ytdgibokmaannjaa
open Go Go.Pv

/-! diaphone/diaphoneref05.SameRows -/
abbrev ins57 : Fs := [(.dat (.sl (.sl (.int .i64))), false), (.dat (.sl (.sl (.int .i64))), false)]
abbrev res57 : Sh := .dat (.bool)
theorem lp57 : loopsIn (codeOf Try.f57) 0 = [(0, loopOf 0 (codeOf Try.f57))] := by kernel_rfl
noncomputable def L57_0 (K : Nat) : Lib := mkLib ti [(24, [e24 K])] [] 57 []
theorem lib57_0 (K : Nat) : LibOk Try.prog (L57_0 K) := libOk_mk (ents := [(24, [e24 K])]) (bodies := []) (loops := []) order tiOk ⟨one_ent (e24_ok K), trivial⟩ trivial Try.func57 rfl lp57 ⟨no_lent, trivial⟩
abbrev i57_0 : Fs := [(.dat (.sl (.sl (.int Go.IntKind.i64))), false), (.dat (.sl (.sl (.int Go.IntKind.i64))), false), (.dat (.int Go.IntKind.i64), true)]
noncomputable def implb57_0 (K : Nat) (rc : (List (List Int)) → (List (List Int)) → Int → Option (Sum (Int × Unit) Bool)) (x1 : (List (List Int))) (x2 : (List (List Int))) (x3 : Int) : Option (Sum (Int × Unit) Bool) :=
  (bif decide (x3 < (↑x1.length : Int)) then (if (0 : Int) ≤ x3 ∧ x3 < (↑x1.length : Int) then (if (0 : Int) ≤ x3 ∧ x3 < (↑x2.length : Int) then (ob (implf24 K (x1.getD x3.toNat []) (x2.getD x3.toNat [])) fun y1 => (bif !y1 then some (Sum.inr false) else (rc x1 x2 (IntKind.i64.wrap (x3 + (1 : Int)))))) else none) else none) else some (Sum.inl (x3, ())))
noncomputable def impll57_0 (K : Nat) : Nat → (List (List Int)) → (List (List Int)) → Int → Option (Sum (Int × Unit) Bool)
  | 0, _, _, _ => none
  | k + 1, x1, x2, x3 => implb57_0 K (impll57_0 K k) x1 x2 x3
noncomputable def n57_0 (K : Nat) : Lent := ⟨[0, 1, 5], i57_0, [11, 12, 13, 14, 17, 18, 19, 20, 21, 22, 23, 24, 25, 26, 4, 15, 16], [0], true, res57, fun x => impll57_0 K K x.1 x.2.1 x.2.2.1, []⟩
theorem q57_0 (K : Nat) (rc : (List (List Int)) → (List (List Int)) → Int → Option (Sum (Int × Unit) Bool)) (x1 : (List (List Int))) (x2 : (List (List Int))) (x3 : Int) : evLoop (L57_0 K) 3 57 Try.f57.results.toList (loopOf 0 (codeOf Try.f57)) 0 [0, 1, 5] [] i57_0 [0] true res57 (fun x => rc x.1 x.2.1 x.2.2.1) (x1, x2, x3, ()) = implb57_0 K rc x1 x2 x3 := by kernel_rfl
theorem lp57_0 : loopsIn (loopOf 0 (codeOf Try.f57)) 0 = [] := by kernel_rfl
theorem n57_0_ok (K : Nat) : LentOk Try.prog Try.f57 (loopOf 0 (codeOf Try.f57)) (n57_0 K) := lentOk_k (slots := [0, 1, 5]) (ali := []) (ins := i57_0) (writes := [11, 12, 13, 14, 17, 18, 19, 20, 21, 22, 23, 24, 25, 26, 4, 15, 16]) (exits := [0]) (rets := true) (rs := res57) (d := 3) (lib57_0 K) lp57_0 trivial (by kernel_rfl) (by kernel_rfl) (by kernel_rfl) (by kernel_rfl) (by kernel_rfl) (fun k x => impll57_0 K k x.1 x.2.1 x.2.2.1) (fun _ => rfl) (fun k x => q57_0 K (impll57_0 K k) x.1 x.2.1 x.2.2.1) K
noncomputable def L57_1 (K : Nat) : Lib := mkLib ti [(24, [e24 K])] [] 57 [(0, [n57_0 K])]
theorem lib57_1 (K : Nat) : LibOk Try.prog (L57_1 K) := libOk_mk (ents := [(24, [e24 K])]) (bodies := []) (loops := [(0, [n57_0 K])]) order tiOk ⟨one_ent (e24_ok K), trivial⟩ trivial Try.func57 rfl lp57 ⟨one_lent (n57_0_ok K), trivial⟩
noncomputable def implf57 (K : Nat) (x1 : (List (List Int))) (x2 : (List (List Int))) : Option (Bool) :=
  (bif (↑x1.length : Int) != (↑x2.length : Int) then some (false) else (ob (impll57_0 K K x1 x2 ((0 : Int))) fun y1 => (match y1 with | .inl y2 => some (true) | .inr y2 => some (y2))))
theorem q57 (K : Nat) (x1 : (List (List Int))) (x2 : (List (List Int))) : evFnK (α := Bool) (L57_1 K) 3 57 Try.f57.results.toList (codeOf Try.f57) ins57 res57 (fun p => p.1) (x1, x2, ()) = implf57 K x1 x2 := by kernel_rfl
noncomputable def e57 (K : Nat) : Ent := ⟨ins57, res57, Bool, fun x => implf57 K x.1 x.2.1, fun _ => (fun y => (y, (()))), false⟩
theorem e57_ok (K : Nat) : EntOk Try.prog 57 (e57 K) := entOk_k (ins := ins57) (rs := res57) (α := Bool) (lib57_1 K) (d := 3) Try.func57 rfl (by kernel_rfl) (by kernel_rfl) (by kernel_rfl) (fun x => implf57 K x.1 x.2.1) (fun p => p.1) (fun y => (y, (()))) (fun _ => rfl) (fun x => q57 K x.1 x.2.1)

/-! diaphone/diaphonelaw05.sane -/
abbrev ins19 : Fs := []
abbrev res19 : Sh := .dat (.bool)
theorem lp19 : loopsIn (codeOf Try.f19) 0 = [] := by kernel_rfl
noncomputable def L19_0 (K : Nat) : Lib := mkLib ti [(58, [e58 K]), (24, [e24 K]), (25, [e25 K]), (37, [e37 K]), (57, [e57 K])] [(22, Try.f22)] 19 []
theorem lib19_0 (K : Nat) : LibOk Try.prog (L19_0 K) := libOk_mk (ents := [(58, [e58 K]), (24, [e24 K]), (25, [e25 K]), (37, [e37 K]), (57, [e57 K])]) (bodies := [(22, Try.f22)]) (loops := []) order tiOk ⟨one_ent (e58_ok K), one_ent (e24_ok K), one_ent (e25_ok K), one_ent (e37_ok K), one_ent (e57_ok K), trivial⟩ ⟨bod22, trivial⟩ Try.func19 rfl lp19 trivial
noncomputable def implf19 (K : Nat)  : Option (Bool) :=
  (ob (implf37 K ((((List.replicate 3 ((0 : Int))).set 0 ((1 : Int))).set 1 ((3 : Int))).set 2 ((4 : Int)))) fun y1 => (ob (implf58 K (((List.replicate 2 ((0 : Int))).set 0 ((0 : Int))).set 1 ((1 : Int))) (((List.replicate 2 ((0 : Int))).set 0 ((0 : Int))).set 1 ((3 : Int))) (-1 : Int)) fun y2 => (ob (implf25 K ((4 : Int))) fun y3 => (bif y1.2 == (0 : Int) then (ob (implf57 K y1.1 ((List.replicate 1 []).set 0 ((((List.replicate 3 ((0 : Int))).set 0 ((0 : Int))).set 1 ((1 : Int))).set 2 ((4 : Int))))) fun y4 => (bif y4 then (bif y2.2 == (0 : Int) then (ob (implf24 K y2.1 (((((List.replicate 4 ((0 : Int))).set 0 (-3 : Int)).set 1 (-2 : Int)).set 2 ((0 : Int))).set 3 ((1 : Int)))) fun y5 => (bif y5 then (bif y3.2 == (0 : Int) then (ob (implf24 K y3.1 (((((List.replicate 4 ((0 : Int))).set 0 ((0 : Int))).set 1 ((1 : Int))).set 2 ((4 : Int))).set 3 ((6 : Int)))) fun y6 => some (y6)) else some (false)) else some (false))) else some (false)) else some (false))) else some (false)))))
theorem q19 (K : Nat)  : evFnK (α := Bool) (L19_0 K) 3 19 Try.f19.results.toList (codeOf Try.f19) ins19 res19 (fun p => p.1) (()) = implf19 K  := by kernel_rfl
noncomputable def e19 (K : Nat) : Ent := ⟨ins19, res19, Bool, fun x => implf19 K , fun _ => (fun y => (y, (()))), false⟩
theorem e19_ok (K : Nat) : EntOk Try.prog 19 (e19 K) := entOk_k (ins := ins19) (rs := res19) (α := Bool) (lib19_0 K) (d := 3) Try.func19 rfl (by kernel_rfl) (by kernel_rfl) (by kernel_rfl) (fun x => implf19 K ) (fun p => p.1) (fun y => (y, (()))) (fun _ => rfl) (fun x => q19 K )

/-! diaphone/diaphoneref05.within -/
abbrev ins63 : Fs := [(.dat (.int .i64), false), (.dat (.int .i64), false), (.dat (.int .i64), false)]
abbrev res63 : Sh := .dat (.bool)
theorem lp63 : loopsIn (codeOf Try.f63) 0 = [] := by kernel_rfl
noncomputable def L63_0 (K : Nat) : Lib := mkLib ti [] [] 63 []
theorem lib63_0 (K : Nat) : LibOk Try.prog (L63_0 K) := libOk_mk (ents := []) (bodies := []) (loops := []) order tiOk trivial trivial Try.func63 rfl lp63 trivial
noncomputable def implf63 (K : Nat) (x1 : Int) (x2 : Int) (x3 : Int) : Option (Bool) :=
  (bif decide (x1 ≥ x2) then some (decide (x1 ≤ x3)) else some (false))
theorem q63 (K : Nat) (x1 : Int) (x2 : Int) (x3 : Int) : evFnK (α := Bool) (L63_0 K) 3 63 Try.f63.results.toList (codeOf Try.f63) ins63 res63 (fun p => p.1) (x1, x2, x3, ()) = implf63 K x1 x2 x3 := by kernel_rfl
noncomputable def e63 (K : Nat) : Ent := ⟨ins63, res63, Bool, fun x => implf63 K x.1 x.2.1 x.2.2.1, fun _ => (fun y => (y, (()))), false⟩
theorem e63_ok (K : Nat) : EntOk Try.prog 63 (e63 K) := entOk_k (ins := ins63) (rs := res63) (α := Bool) (lib63_0 K) (d := 3) Try.func63 rfl (by kernel_rfl) (by kernel_rfl) (by kernel_rfl) (fun x => implf63 K x.1 x.2.1 x.2.2.1) (fun p => p.1) (fun y => (y, (()))) (fun _ => rfl) (fun x => q63 K x.1 x.2.1 x.2.2.1)

/-! diaphone/diaphoneref05.Validate -/
abbrev ins33 : Fs := [(.dat (.sl (.int .i64)), false)]
abbrev res33 : Sh := .dat (.int .i64)
theorem lp33 : loopsIn (codeOf Try.f33) 0 = [(0, loopOf 0 (codeOf Try.f33))] := by kernel_rfl
noncomputable def L33_0 (K : Nat) : Lib := mkLib ti [(63, [e63 K])] [] 33 []
theorem lib33_0 (K : Nat) : LibOk Try.prog (L33_0 K) := libOk_mk (ents := [(63, [e63 K])]) (bodies := []) (loops := []) order tiOk ⟨one_ent (e63_ok K), trivial⟩ trivial Try.func33 rfl lp33 ⟨no_lent, trivial⟩
abbrev i33_0 : Fs := [(.dat (.sl (.int Go.IntKind.i64)), false), (.dat (.int Go.IntKind.i64), true)]
noncomputable def implb33_0 (K : Nat) (rc : (List Int) → Int → Option (Sum (Int × Unit) Int)) (x1 : (List Int)) (x2 : Int) : Option (Sum (Int × Unit) Int) :=
  (bif decide (x2 < (↑x1.length : Int)) then (if (0 : Int) ≤ x2 ∧ x2 < (↑x1.length : Int) then (ob (implf63 K (x1.getD x2.toNat ((0 : Int))) (-60 : Int) ((60 : Int))) fun y1 => (bif !y1 then some (Sum.inr ((1 : Int))) else (bif decide (x2 > (0 : Int)) then (if (0 : Int) ≤ IntKind.i64.wrap (x2 - (1 : Int)) ∧ IntKind.i64.wrap (x2 - (1 : Int)) < (↑x1.length : Int) then (if (0 : Int) ≤ x2 ∧ x2 < (↑x1.length : Int) then (bif decide (x1.getD (IntKind.i64.wrap (x2 - (1 : Int))).toNat ((0 : Int)) ≥ x1.getD x2.toNat ((0 : Int))) then some (Sum.inr ((1 : Int))) else (rc x1 (IntKind.i64.wrap (x2 + (1 : Int))))) else none) else none) else (rc x1 (IntKind.i64.wrap (x2 + (1 : Int))))))) else none) else some (Sum.inl (x2, ())))
noncomputable def impll33_0 (K : Nat) : Nat → (List Int) → Int → Option (Sum (Int × Unit) Int)
  | 0, _, _ => none
  | k + 1, x1, x2 => implb33_0 K (impll33_0 K k) x1 x2
noncomputable def n33_0 (K : Nat) : Lent := ⟨[0, 3], i33_0, [8, 9, 10, 11, 14, 15, 16, 17, 18, 19, 20, 21, 22, 23, 24, 25, 26, 27, 28, 29, 30, 31, 32, 33, 34, 35, 2, 12, 13], [0], true, res33, fun x => impll33_0 K K x.1 x.2.1, []⟩
theorem q33_0 (K : Nat) (rc : (List Int) → Int → Option (Sum (Int × Unit) Int)) (x1 : (List Int)) (x2 : Int) : evLoop (L33_0 K) 3 33 Try.f33.results.toList (loopOf 0 (codeOf Try.f33)) 0 [0, 3] [] i33_0 [0] true res33 (fun x => rc x.1 x.2.1) (x1, x2, ()) = implb33_0 K rc x1 x2 := by kernel_rfl
theorem lp33_0 : loopsIn (loopOf 0 (codeOf Try.f33)) 0 = [] := by kernel_rfl
theorem n33_0_ok (K : Nat) : LentOk Try.prog Try.f33 (loopOf 0 (codeOf Try.f33)) (n33_0 K) := lentOk_k (slots := [0, 3]) (ali := []) (ins := i33_0) (writes := [8, 9, 10, 11, 14, 15, 16, 17, 18, 19, 20, 21, 22, 23, 24, 25, 26, 27, 28, 29, 30, 31, 32, 33, 34, 35, 2, 12, 13]) (exits := [0]) (rets := true) (rs := res33) (d := 3) (lib33_0 K) lp33_0 trivial (by kernel_rfl) (by kernel_rfl) (by kernel_rfl) (by kernel_rfl) (by kernel_rfl) (fun k x => impll33_0 K k x.1 x.2.1) (fun _ => rfl) (fun k x => q33_0 K (impll33_0 K k) x.1 x.2.1) K
noncomputable def L33_1 (K : Nat) : Lib := mkLib ti [(63, [e63 K])] [] 33 [(0, [n33_0 K])]
theorem lib33_1 (K : Nat) : LibOk Try.prog (L33_1 K) := libOk_mk (ents := [(63, [e63 K])]) (bodies := []) (loops := [(0, [n33_0 K])]) order tiOk ⟨one_ent (e63_ok K), trivial⟩ trivial Try.func33 rfl lp33 ⟨one_lent (n33_0_ok K), trivial⟩
noncomputable def implf33 (K : Nat) (x1 : (List Int)) : Option (Int) :=
  (ob (implf63 K ((↑x1.length : Int)) ((1 : Int)) ((6 : Int))) fun y1 => (bif !y1 then some ((3 : Int)) else (ob (impll33_0 K K x1 ((0 : Int))) fun y2 => (match y2 with | .inl y3 => (if (0 : Int) ≤ IntKind.i64.wrap ((↑x1.length : Int) - (1 : Int)) ∧ IntKind.i64.wrap ((↑x1.length : Int) - (1 : Int)) < (↑x1.length : Int) then (if (0 : Int) ≤ (0 : Int) ∧ (0 : Int) < (↑x1.length : Int) then (bif decide (IntKind.i64.wrap (x1.getD (IntKind.i64.wrap ((↑x1.length : Int) - (1 : Int))).toNat ((0 : Int)) - x1.getD (0) ((0 : Int))) > (60 : Int)) then some ((1 : Int)) else some ((0 : Int))) else none) else none) | .inr y3 => some (y3)))))
theorem q33 (K : Nat) (x1 : (List Int)) : evFnK (α := Int) (L33_1 K) 3 33 Try.f33.results.toList (codeOf Try.f33) ins33 res33 (fun p => p.1) (x1, ()) = implf33 K x1 := by kernel_rfl
noncomputable def e33 (K : Nat) : Ent := ⟨ins33, res33, Int, fun x => implf33 K x.1, fun _ => (fun y => (y, (()))), false⟩
theorem e33_ok (K : Nat) : EntOk Try.prog 33 (e33 K) := entOk_k (ins := ins33) (rs := res33) (α := Int) (lib33_1 K) (d := 3) Try.func33 rfl (by kernel_rfl) (by kernel_rfl) (by kernel_rfl) (fun x => implf33 K x.1) (fun p => p.1) (fun y => (y, (()))) (fun _ => rfl) (fun x => q33 K x.1)

/-! diaphone/diaphoneref05.two -/
abbrev ins59 : Fs := [(.dat (.sl (.int .i64)), false), (.dat (.sl (.int .i64)), false)]
abbrev res59 : Sh := .dat (.int .i64)
theorem lp59 : loopsIn (codeOf Try.f59) 0 = [] := by kernel_rfl
noncomputable def L59_0 (K : Nat) : Lib := mkLib ti [(33, [e33 K])] [] 59 []
theorem lib59_0 (K : Nat) : LibOk Try.prog (L59_0 K) := libOk_mk (ents := [(33, [e33 K])]) (bodies := []) (loops := []) order tiOk ⟨one_ent (e33_ok K), trivial⟩ trivial Try.func59 rfl lp59 trivial
noncomputable def implf59 (K : Nat) (x1 : (List Int)) (x2 : (List Int)) : Option (Int) :=
  (ob (implf33 K x1) fun y1 => (bif y1 != (0 : Int) then some (y1) else (ob (implf33 K x2) fun y2 => some (y2))))
theorem q59 (K : Nat) (x1 : (List Int)) (x2 : (List Int)) : evFnK (α := Int) (L59_0 K) 3 59 Try.f59.results.toList (codeOf Try.f59) ins59 res59 (fun p => p.1) (x1, x2, ()) = implf59 K x1 x2 := by kernel_rfl
noncomputable def e59 (K : Nat) : Ent := ⟨ins59, res59, Int, fun x => implf59 K x.1 x.2.1, fun _ => (fun y => (y, (()))), false⟩
theorem e59_ok (K : Nat) : EntOk Try.prog 59 (e59 K) := entOk_k (ins := ins59) (rs := res59) (α := Int) (lib59_0 K) (d := 3) Try.func59 rfl (by kernel_rfl) (by kernel_rfl) (by kernel_rfl) (fun x => implf59 K x.1 x.2.1) (fun p => p.1) (fun y => (y, (()))) (fun _ => rfl) (fun x => q59 K x.1 x.2.1)

/-! diaphone/diaphoneref05.sorted -/
abbrev ins82 : Fs := [(.dat (.sl (.int .i64)), false)]
abbrev res82 : Sh := .own (.int .i64)
theorem lp82 : loopsIn (codeOf Try.f82) 0 = [(0, loopOf 0 (codeOf Try.f82)), (2, loopOf 2 (codeOf Try.f82))] := by kernel_rfl
noncomputable def L82_0 (K : Nat) : Lib := mkLib ti [] [] 82 []
theorem lib82_0 (K : Nat) : LibOk Try.prog (L82_0 K) := libOk_mk (ents := []) (bodies := []) (loops := []) order tiOk trivial trivial Try.func82 rfl lp82 ⟨no_lent, no_lent, trivial⟩
abbrev i82_0 : Fs := [(.own (.int Go.IntKind.i64), true), (.dat (.int Go.IntKind.i64), true)]
abbrev i82_2 : Fs := [(.own (.int Go.IntKind.i64), true), (.dat (.int Go.IntKind.i64), false), (.dat (.int Go.IntKind.i64), true)]
noncomputable def implb82_2 (K : Nat) (rc : (List Int) → Int → Int → Option ((List Int) × Int × Unit)) (x1 : (List Int)) (x2 : Int) (x3 : Int) : Option ((List Int) × Int × Unit) :=
  (bif decide (x3 > (0 : Int)) then (if (0 : Int) ≤ IntKind.i64.wrap (x3 - (1 : Int)) ∧ IntKind.i64.wrap (x3 - (1 : Int)) < (↑x1.length : Int) then (if (0 : Int) ≤ x3 ∧ x3 < (↑x1.length : Int) then (bif decide (x1.getD (IntKind.i64.wrap (x3 - (1 : Int))).toNat ((0 : Int)) > x1.getD x3.toNat ((0 : Int))) then (if (0 : Int) ≤ x3 ∧ x3 < (↑x1.length : Int) then (if (0 : Int) ≤ IntKind.i64.wrap (x3 - (1 : Int)) ∧ IntKind.i64.wrap (x3 - (1 : Int)) < (↑x1.length : Int) then (if (0 : Int) ≤ x3 ∧ x3 < (↑x1.length : Int) then (if (0 : Int) ≤ IntKind.i64.wrap (x3 - (1 : Int)) ∧ IntKind.i64.wrap (x3 - (1 : Int)) < (↑(x1.set x3.toNat (x1.getD (IntKind.i64.wrap (x3 - (1 : Int))).toNat ((0 : Int)))).length : Int) then (rc ((x1.set x3.toNat (x1.getD (IntKind.i64.wrap (x3 - (1 : Int))).toNat ((0 : Int)))).set (IntKind.i64.wrap (x3 - (1 : Int))).toNat (x1.getD x3.toNat ((0 : Int)))) x2 (IntKind.i64.wrap (x3 - (1 : Int)))) else none) else none) else none) else none) else some ((x1, x3, ()))) else none) else none) else some ((x1, x3, ())))
noncomputable def impll82_2 (K : Nat) : Nat → (List Int) → Int → Int → Option ((List Int) × Int × Unit)
  | 0, _, _, _ => none
  | k + 1, x1, x2, x3 => implb82_2 K (impll82_2 K k) x1 x2 x3
noncomputable def n82_2 (K : Nat) : Lent := ⟨[3, 4, 5], i82_2, [17, 18, 19, 20, 21, 22, 23, 24, 25, 26, 27, 28, 29, 30, 33, 34, 35, 36, 6, 37, 38, 39, 40, 41, 42, 43, 44, 45, 46, 47, 48, 49, 31, 32], [2], false, res82, fun x => impll82_2 K K x.1 x.2.1 x.2.2.1, []⟩
theorem q82_2 (K : Nat) (rc : (List Int) → Int → Int → Option ((List Int) × Int × Unit)) (x1 : (List Int)) (x2 : Int) (x3 : Int) : evLoop (L82_0 K) 3 82 Try.f82.results.toList (loopOf 2 (codeOf Try.f82)) 2 [3, 4, 5] [] i82_2 [2] false res82 (fun x => rc x.1 x.2.1 x.2.2.1) (x1, x2, x3, ()) = implb82_2 K rc x1 x2 x3 := by kernel_rfl
theorem lp82_2 : loopsIn (loopOf 2 (codeOf Try.f82)) 2 = [] := by kernel_rfl
theorem n82_2_ok (K : Nat) : LentOk Try.prog Try.f82 (loopOf 2 (codeOf Try.f82)) (n82_2 K) := lentOk_k (slots := [3, 4, 5]) (ali := []) (ins := i82_2) (writes := [17, 18, 19, 20, 21, 22, 23, 24, 25, 26, 27, 28, 29, 30, 33, 34, 35, 36, 6, 37, 38, 39, 40, 41, 42, 43, 44, 45, 46, 47, 48, 49, 31, 32]) (exits := [2]) (rets := false) (rs := res82) (d := 3) (lib82_0 K) lp82_2 trivial (by kernel_rfl) (by kernel_rfl) (by kernel_rfl) (by kernel_rfl) (by kernel_rfl) (fun k x => impll82_2 K k x.1 x.2.1 x.2.2.1) (fun _ => rfl) (fun k x => q82_2 K (impll82_2 K k) x.1 x.2.1 x.2.2.1) K
noncomputable def L82_1 (K : Nat) : Lib := mkLib ti [] [] 82 [(2, [n82_2 K])]
theorem lib82_1 (K : Nat) : LibOk Try.prog (L82_1 K) := libOk_mk (ents := []) (bodies := []) (loops := [(2, [n82_2 K])]) order tiOk trivial trivial Try.func82 rfl lp82 ⟨no_lent, one_lent (n82_2_ok K), trivial⟩
noncomputable def implb82_0 (K : Nat) (rc : (List Int) → Int → Option ((List Int) × Int × Unit)) (x1 : (List Int)) (x2 : Int) : Option ((List Int) × Int × Unit) :=
  (bif decide (x2 < (↑x1.length : Int)) then (ob (impll82_2 K K x1 x2 x2) fun y1 => (rc y1.1 (IntKind.i64.wrap (x2 + (1 : Int))))) else some ((x1, x2, ())))
noncomputable def impll82_0 (K : Nat) : Nat → (List Int) → Int → Option ((List Int) × Int × Unit)
  | 0, _, _ => none
  | k + 1, x1, x2 => implb82_0 K (impll82_0 K k) x1 x2
noncomputable def n82_0 (K : Nat) : Lent := ⟨[3, 4], i82_0, [10, 11, 12, 13, 16, 5, 17, 18, 19, 20, 21, 22, 23, 24, 25, 26, 27, 28, 29, 30, 33, 34, 35, 36, 6, 37, 38, 39, 40, 41, 42, 43, 44, 45, 46, 47, 48, 49, 31, 32, 14, 15], [0], false, res82, fun x => impll82_0 K K x.1 x.2.1, []⟩
theorem q82_0 (K : Nat) (rc : (List Int) → Int → Option ((List Int) × Int × Unit)) (x1 : (List Int)) (x2 : Int) : evLoop (L82_1 K) 3 82 Try.f82.results.toList (loopOf 0 (codeOf Try.f82)) 0 [3, 4] [] i82_0 [0] false res82 (fun x => rc x.1 x.2.1) (x1, x2, ()) = implb82_0 K rc x1 x2 := by kernel_rfl
theorem lp82_0 : loopsIn (loopOf 0 (codeOf Try.f82)) 0 = [(2, loopOf 2 (codeOf Try.f82))] := by kernel_rfl
theorem n82_0_ok (K : Nat) : LentOk Try.prog Try.f82 (loopOf 0 (codeOf Try.f82)) (n82_0 K) := lentOk_k (slots := [3, 4]) (ali := []) (ins := i82_0) (writes := [10, 11, 12, 13, 16, 5, 17, 18, 19, 20, 21, 22, 23, 24, 25, 26, 27, 28, 29, 30, 33, 34, 35, 36, 6, 37, 38, 39, 40, 41, 42, 43, 44, 45, 46, 47, 48, 49, 31, 32, 14, 15]) (exits := [0]) (rets := false) (rs := res82) (d := 3) (lib82_1 K) lp82_0 ⟨one_lent (n82_2_ok K), trivial⟩ (by kernel_rfl) (by kernel_rfl) (by kernel_rfl) (by kernel_rfl) (by kernel_rfl) (fun k x => impll82_0 K k x.1 x.2.1) (fun _ => rfl) (fun k x => q82_0 K (impll82_0 K k) x.1 x.2.1) K
noncomputable def L82_2 (K : Nat) : Lib := mkLib ti [] [] 82 [(2, [n82_2 K]), (0, [n82_0 K])]
theorem lib82_2 (K : Nat) : LibOk Try.prog (L82_2 K) := libOk_mk (ents := []) (bodies := []) (loops := [(2, [n82_2 K]), (0, [n82_0 K])]) order tiOk trivial trivial Try.func82 rfl lp82 ⟨one_lent (n82_0_ok K), one_lent (n82_2_ok K), trivial⟩
noncomputable def implf82 (K : Nat) (x1 : (List Int)) : Option ((List Int)) :=
  (if ((List.replicate 0 ((0 : Int))).length + x1.length) * 8 ≤ 140737488355328 then (ob (impll82_0 K K (List.replicate 0 ((0 : Int)) ++ x1) ((0 : Int))) fun y1 => some (y1.1)) else none)
theorem q82 (K : Nat) (x1 : (List Int)) : evFnK (α := (List Int)) (L82_2 K) 3 82 Try.f82.results.toList (codeOf Try.f82) ins82 res82 (fun p => p.1) (x1, ()) = implf82 K x1 := by kernel_rfl
noncomputable def e82 (K : Nat) : Ent := ⟨ins82, res82, (List Int), fun x => implf82 K x.1, fun _ => (fun y => (y, (()))), false⟩
theorem e82_ok (K : Nat) : EntOk Try.prog 82 (e82 K) := entOk_k (ins := ins82) (rs := res82) (α := (List Int)) (lib82_2 K) (d := 3) Try.func82 rfl (by kernel_rfl) (by kernel_rfl) (by kernel_rfl) (fun x => implf82 K x.1) (fun p => p.1) (fun y => (y, (()))) (fun _ => rfl) (fun x => q82 K x.1)

/-! diaphone/diaphoneref05.made -/
abbrev ins60 : Fs := [(.dat (.sl (.int .i64)), false)]
abbrev res60 : Sh := .cons (.own (.int .i64)) (.cons (.dat (.int .i64)) (.un))
theorem lp60 : loopsIn (codeOf Try.f60) 0 = [(0, loopOf 0 (codeOf Try.f60))] := by kernel_rfl
noncomputable def L60_0 (K : Nat) : Lib := mkLib ti [(33, [e33 K]), (82, [e82 K])] [] 60 []
theorem lib60_0 (K : Nat) : LibOk Try.prog (L60_0 K) := libOk_mk (ents := [(33, [e33 K]), (82, [e82 K])]) (bodies := []) (loops := []) order tiOk ⟨one_ent (e33_ok K), one_ent (e82_ok K), trivial⟩ trivial Try.func60 rfl lp60 ⟨no_lent, trivial⟩
abbrev i60_0 : Fs := [(.own (.int Go.IntKind.i64), false), (.dat (.int Go.IntKind.i64), true)]
noncomputable def implb60_0 (K : Nat) (rc : (List Int) → Int → Option (Sum (Int × Unit) ((List Int) × Int × Unit))) (x1 : (List Int)) (x2 : Int) : Option (Sum (Int × Unit) ((List Int) × Int × Unit)) :=
  (bif decide (x2 < (↑x1.length : Int)) then (if (0 : Int) ≤ x2 ∧ x2 < (↑x1.length : Int) then (if (0 : Int) ≤ IntKind.i64.wrap (x2 - (1 : Int)) ∧ IntKind.i64.wrap (x2 - (1 : Int)) < (↑x1.length : Int) then (bif x1.getD x2.toNat ((0 : Int)) == x1.getD (IntKind.i64.wrap (x2 - (1 : Int))).toNat ((0 : Int)) then some (Sum.inr ([], (5 : Int), ())) else (rc x1 (IntKind.i64.wrap (x2 + (1 : Int))))) else none) else none) else some (Sum.inl (x2, ())))
noncomputable def impll60_0 (K : Nat) : Nat → (List Int) → Int → Option (Sum (Int × Unit) ((List Int) × Int × Unit))
  | 0, _, _ => none
  | k + 1, x1, x2 => implb60_0 K (impll60_0 K k) x1 x2
noncomputable def n60_0 (K : Nat) : Lent := ⟨[4, 5], i60_0, [9, 10, 11, 12, 15, 16, 17, 18, 19, 20, 21, 22, 23, 24, 2, 3, 13, 14], [0], true, res60, fun x => impll60_0 K K x.1 x.2.1, []⟩
theorem q60_0 (K : Nat) (rc : (List Int) → Int → Option (Sum (Int × Unit) ((List Int) × Int × Unit))) (x1 : (List Int)) (x2 : Int) : evLoop (L60_0 K) 3 60 Try.f60.results.toList (loopOf 0 (codeOf Try.f60)) 0 [4, 5] [] i60_0 [0] true res60 (fun x => rc x.1 x.2.1) (x1, x2, ()) = implb60_0 K rc x1 x2 := by kernel_rfl
theorem lp60_0 : loopsIn (loopOf 0 (codeOf Try.f60)) 0 = [] := by kernel_rfl
theorem n60_0_ok (K : Nat) : LentOk Try.prog Try.f60 (loopOf 0 (codeOf Try.f60)) (n60_0 K) := lentOk_k (slots := [4, 5]) (ali := []) (ins := i60_0) (writes := [9, 10, 11, 12, 15, 16, 17, 18, 19, 20, 21, 22, 23, 24, 2, 3, 13, 14]) (exits := [0]) (rets := true) (rs := res60) (d := 3) (lib60_0 K) lp60_0 trivial (by kernel_rfl) (by kernel_rfl) (by kernel_rfl) (by kernel_rfl) (by kernel_rfl) (fun k x => impll60_0 K k x.1 x.2.1) (fun _ => rfl) (fun k x => q60_0 K (impll60_0 K k) x.1 x.2.1) K
noncomputable def L60_1 (K : Nat) : Lib := mkLib ti [(33, [e33 K]), (82, [e82 K])] [] 60 [(0, [n60_0 K])]
theorem lib60_1 (K : Nat) : LibOk Try.prog (L60_1 K) := libOk_mk (ents := [(33, [e33 K]), (82, [e82 K])]) (bodies := []) (loops := [(0, [n60_0 K])]) order tiOk ⟨one_ent (e33_ok K), one_ent (e82_ok K), trivial⟩ trivial Try.func60 rfl lp60 ⟨one_lent (n60_0_ok K), trivial⟩
noncomputable def implf60 (K : Nat) (x1 : (List Int)) : Option ((List Int) × Int) :=
  (ob (implf82 K x1) fun y1 => (ob (impll60_0 K K y1 ((1 : Int))) fun y2 => (match y2 with | .inl y3 => (ob (implf33 K y1) fun y4 => (bif y4 != (0 : Int) then some (([], y4)) else some ((y1, (0 : Int))))) | .inr y3 => some ((y3.1, y3.2.1)))))
theorem q60 (K : Nat) (x1 : (List Int)) : evFnK (α := (List Int) × Int) (L60_1 K) 3 60 Try.f60.results.toList (codeOf Try.f60) ins60 res60 (fun p => (p.1.1, p.1.2.1)) (x1, ()) = implf60 K x1 := by kernel_rfl
noncomputable def e60 (K : Nat) : Ent := ⟨ins60, res60, (List Int) × Int, fun x => implf60 K x.1, fun _ => (fun y => ((y.1, y.2, ()), (()))), false⟩
theorem e60_ok (K : Nat) : EntOk Try.prog 60 (e60 K) := entOk_k (ins := ins60) (rs := res60) (α := (List Int) × Int) (lib60_1 K) (d := 3) Try.func60 rfl (by kernel_rfl) (by kernel_rfl) (by kernel_rfl) (fun x => implf60 K x.1) (fun p => (p.1.1, p.1.2.1)) (fun y => ((y.1, y.2, ()), (()))) (fun _ => rfl) (fun x => q60 K x.1)

/-! diaphone/diaphoneref05.Plus -/
abbrev ins21 : Fs := [(.dat (.sl (.int .i64)), false), (.dat (.sl (.int .i64)), false)]
abbrev res21 : Sh := .cons (.own (.int .i64)) (.cons (.dat (.int .i64)) (.un))
theorem lp21 : loopsIn (codeOf Try.f21) 0 = [(0, loopOf 0 (codeOf Try.f21)), (2, loopOf 2 (codeOf Try.f21))] := by kernel_rfl
noncomputable def L21_0 (K : Nat) : Lib := mkLib ti [(59, [e59 K]), (60, [e60 K])] [] 21 []
theorem lib21_0 (K : Nat) : LibOk Try.prog (L21_0 K) := libOk_mk (ents := [(59, [e59 K]), (60, [e60 K])]) (bodies := []) (loops := []) order tiOk ⟨one_ent (e59_ok K), one_ent (e60_ok K), trivial⟩ trivial Try.func21 rfl lp21 ⟨no_lent, no_lent, trivial⟩
abbrev i21_0 : Fs := [(.dat (.sl (.int Go.IntKind.i64)), false), (.dat (.sl (.int Go.IntKind.i64)), false), (.own (.int .i64), true), (.dat (.int Go.IntKind.i64), true)]
abbrev i21_2 : Fs := [(.dat (.sl (.int Go.IntKind.i64)), false), (.dat (.sl (.int Go.IntKind.i64)), false), (.own (.int Go.IntKind.i64), true), (.dat (.int Go.IntKind.i64), false), (.dat (.int Go.IntKind.i64), true)]
noncomputable def implb21_2 (K : Nat) (rc : (List Int) → (List Int) → (List Int) → Int → Int → Option ((List Int) × Int × Unit)) (x1 : (List Int)) (x2 : (List Int)) (x3 : (List Int)) (x4 : Int) (x5 : Int) : Option ((List Int) × Int × Unit) :=
  (bif decide (x5 < (↑x2.length : Int)) then (if (0 : Int) ≤ x4 ∧ x4 < (↑x1.length : Int) then (if (0 : Int) ≤ x5 ∧ x5 < (↑x2.length : Int) then (if (x3.length + ((List.replicate 1 ((0 : Int))).set 0 (IntKind.i64.wrap (x1.getD x4.toNat ((0 : Int)) + x2.getD x5.toNat ((0 : Int))))).length) * 8 ≤ 140737488355328 then (rc x1 x2 (x3 ++ (List.replicate 1 ((0 : Int))).set 0 (IntKind.i64.wrap (x1.getD x4.toNat ((0 : Int)) + x2.getD x5.toNat ((0 : Int))))) x4 (IntKind.i64.wrap (x5 + (1 : Int)))) else none) else none) else none) else some ((x3, x5, ())))
noncomputable def impll21_2 (K : Nat) : Nat → (List Int) → (List Int) → (List Int) → Int → Int → Option ((List Int) × Int × Unit)
  | 0, _, _, _, _, _ => none
  | k + 1, x1, x2, x3, x4, x5 => implb21_2 K (impll21_2 K k) x1 x2 x3 x4 x5
noncomputable def n21_2 (K : Nat) : Lent := ⟨[0, 1, 7, 8, 9], i21_2, [22, 23, 24, 25, 28, 29, 30, 31, 32, 33, 34, 35, 36, 37, 38, 39, 26, 27], [2], false, res21, fun x => impll21_2 K K x.1 x.2.1 x.2.2.1 x.2.2.2.1 x.2.2.2.2.1, []⟩
theorem q21_2 (K : Nat) (rc : (List Int) → (List Int) → (List Int) → Int → Int → Option ((List Int) × Int × Unit)) (x1 : (List Int)) (x2 : (List Int)) (x3 : (List Int)) (x4 : Int) (x5 : Int) : evLoop (L21_0 K) 3 21 Try.f21.results.toList (loopOf 2 (codeOf Try.f21)) 2 [0, 1, 7, 8, 9] [] i21_2 [2] false res21 (fun x => rc x.1 x.2.1 x.2.2.1 x.2.2.2.1 x.2.2.2.2.1) (x1, x2, x3, x4, x5, ()) = implb21_2 K rc x1 x2 x3 x4 x5 := by kernel_rfl
theorem lp21_2 : loopsIn (loopOf 2 (codeOf Try.f21)) 2 = [] := by kernel_rfl
theorem n21_2_ok (K : Nat) : LentOk Try.prog Try.f21 (loopOf 2 (codeOf Try.f21)) (n21_2 K) := lentOk_k (slots := [0, 1, 7, 8, 9]) (ali := []) (ins := i21_2) (writes := [22, 23, 24, 25, 28, 29, 30, 31, 32, 33, 34, 35, 36, 37, 38, 39, 26, 27]) (exits := [2]) (rets := false) (rs := res21) (d := 3) (lib21_0 K) lp21_2 trivial (by kernel_rfl) (by kernel_rfl) (by kernel_rfl) (by kernel_rfl) (by kernel_rfl) (fun k x => impll21_2 K k x.1 x.2.1 x.2.2.1 x.2.2.2.1 x.2.2.2.2.1) (fun _ => rfl) (fun k x => q21_2 K (impll21_2 K k) x.1 x.2.1 x.2.2.1 x.2.2.2.1 x.2.2.2.2.1) K
noncomputable def L21_1 (K : Nat) : Lib := mkLib ti [(59, [e59 K]), (60, [e60 K])] [] 21 [(2, [n21_2 K])]
theorem lib21_1 (K : Nat) : LibOk Try.prog (L21_1 K) := libOk_mk (ents := [(59, [e59 K]), (60, [e60 K])]) (bodies := []) (loops := [(2, [n21_2 K])]) order tiOk ⟨one_ent (e59_ok K), one_ent (e60_ok K), trivial⟩ trivial Try.func21 rfl lp21 ⟨no_lent, one_lent (n21_2_ok K), trivial⟩
noncomputable def implb21_0 (K : Nat) (rc : (List Int) → (List Int) → (List Int) → Int → Option ((List Int) × Int × Unit)) (x1 : (List Int)) (x2 : (List Int)) (x3 : (List Int)) (x4 : Int) : Option ((List Int) × Int × Unit) :=
  (bif decide (x4 < (↑x1.length : Int)) then (ob (impll21_2 K K x1 x2 x3 x4 ((0 : Int))) fun y1 => (rc x1 x2 y1.1 (IntKind.i64.wrap (x4 + (1 : Int))))) else some ((x3, x4, ())))
noncomputable def impll21_0 (K : Nat) : Nat → (List Int) → (List Int) → (List Int) → Int → Option ((List Int) × Int × Unit)
  | 0, _, _, _, _ => none
  | k + 1, x1, x2, x3, x4 => implb21_0 K (impll21_0 K k) x1 x2 x3 x4
noncomputable def n21_0 (K : Nat) : Lent := ⟨[0, 1, 7, 8], i21_0, [16, 17, 18, 19, 9, 22, 23, 24, 25, 28, 29, 30, 31, 32, 33, 34, 35, 36, 37, 38, 39, 26, 27, 20, 21], [0], false, res21, fun x => impll21_0 K K x.1 x.2.1 x.2.2.1 x.2.2.2.1, []⟩
theorem q21_0 (K : Nat) (rc : (List Int) → (List Int) → (List Int) → Int → Option ((List Int) × Int × Unit)) (x1 : (List Int)) (x2 : (List Int)) (x3 : (List Int)) (x4 : Int) : evLoop (L21_1 K) 3 21 Try.f21.results.toList (loopOf 0 (codeOf Try.f21)) 0 [0, 1, 7, 8] [] i21_0 [0] false res21 (fun x => rc x.1 x.2.1 x.2.2.1 x.2.2.2.1) (x1, x2, x3, x4, ()) = implb21_0 K rc x1 x2 x3 x4 := by kernel_rfl
theorem lp21_0 : loopsIn (loopOf 0 (codeOf Try.f21)) 0 = [(2, loopOf 2 (codeOf Try.f21))] := by kernel_rfl
theorem n21_0_ok (K : Nat) : LentOk Try.prog Try.f21 (loopOf 0 (codeOf Try.f21)) (n21_0 K) := lentOk_k (slots := [0, 1, 7, 8]) (ali := []) (ins := i21_0) (writes := [16, 17, 18, 19, 9, 22, 23, 24, 25, 28, 29, 30, 31, 32, 33, 34, 35, 36, 37, 38, 39, 26, 27, 20, 21]) (exits := [0]) (rets := false) (rs := res21) (d := 3) (lib21_1 K) lp21_0 ⟨one_lent (n21_2_ok K), trivial⟩ (by kernel_rfl) (by kernel_rfl) (by kernel_rfl) (by kernel_rfl) (by kernel_rfl) (fun k x => impll21_0 K k x.1 x.2.1 x.2.2.1 x.2.2.2.1) (fun _ => rfl) (fun k x => q21_0 K (impll21_0 K k) x.1 x.2.1 x.2.2.1 x.2.2.2.1) K
noncomputable def L21_2 (K : Nat) : Lib := mkLib ti [(59, [e59 K]), (60, [e60 K])] [] 21 [(2, [n21_2 K]), (0, [n21_0 K])]
theorem lib21_2 (K : Nat) : LibOk Try.prog (L21_2 K) := libOk_mk (ents := [(59, [e59 K]), (60, [e60 K])]) (bodies := []) (loops := [(2, [n21_2 K]), (0, [n21_0 K])]) order tiOk ⟨one_ent (e59_ok K), one_ent (e60_ok K), trivial⟩ trivial Try.func21 rfl lp21 ⟨one_lent (n21_0_ok K), one_lent (n21_2_ok K), trivial⟩
noncomputable def implf21 (K : Nat) (x1 : (List Int)) (x2 : (List Int)) : Option ((List Int) × Int) :=
  (ob (implf59 K x1 x2) fun y1 => (bif y1 != (0 : Int) then some (([], y1)) else (ob (impll21_0 K K x1 x2 [] ((0 : Int))) fun y2 => (ob (implf60 K y2.1) fun y3 => some ((y3.1, y3.2))))))
theorem q21 (K : Nat) (x1 : (List Int)) (x2 : (List Int)) : evFnK (α := (List Int) × Int) (L21_2 K) 3 21 Try.f21.results.toList (codeOf Try.f21) ins21 res21 (fun p => (p.1.1, p.1.2.1)) (x1, x2, ()) = implf21 K x1 x2 := by kernel_rfl
noncomputable def e21 (K : Nat) : Ent := ⟨ins21, res21, (List Int) × Int, fun x => implf21 K x.1 x.2.1, fun _ => (fun y => ((y.1, y.2, ()), (()))), false⟩
theorem e21_ok (K : Nat) : EntOk Try.prog 21 (e21 K) := entOk_k (ins := ins21) (rs := res21) (α := (List Int) × Int) (lib21_2 K) (d := 3) Try.func21 rfl (by kernel_rfl) (by kernel_rfl) (by kernel_rfl) (fun x => implf21 K x.1 x.2.1) (fun p => (p.1.1, p.1.2.1)) (fun y => ((y.1, y.2, ()), (()))) (fun _ => rfl) (fun x => q21 K x.1 x.2.1)

/-! diaphone/diaphoneref05.Minus -/
abbrev ins23 : Fs := [(.dat (.sl (.int .i64)), false), (.dat (.sl (.int .i64)), false)]
abbrev res23 : Sh := .cons (.own (.int .i64)) (.cons (.dat (.int .i64)) (.un))
theorem lp23 : loopsIn (codeOf Try.f23) 0 = [(0, loopOf 0 (codeOf Try.f23)), (2, loopOf 2 (codeOf Try.f23))] := by kernel_rfl
noncomputable def L23_0 (K : Nat) : Lib := mkLib ti [(59, [e59 K]), (60, [e60 K])] [] 23 []
theorem lib23_0 (K : Nat) : LibOk Try.prog (L23_0 K) := libOk_mk (ents := [(59, [e59 K]), (60, [e60 K])]) (bodies := []) (loops := []) order tiOk ⟨one_ent (e59_ok K), one_ent (e60_ok K), trivial⟩ trivial Try.func23 rfl lp23 ⟨no_lent, no_lent, trivial⟩
abbrev i23_0 : Fs := [(.dat (.sl (.int Go.IntKind.i64)), false), (.dat (.sl (.int Go.IntKind.i64)), false), (.own (.int .i64), true), (.dat (.int Go.IntKind.i64), true)]
abbrev i23_2 : Fs := [(.dat (.sl (.int Go.IntKind.i64)), false), (.dat (.sl (.int Go.IntKind.i64)), false), (.own (.int Go.IntKind.i64), true), (.dat (.int Go.IntKind.i64), false), (.dat (.int Go.IntKind.i64), true)]
noncomputable def implb23_2 (K : Nat) (rc : (List Int) → (List Int) → (List Int) → Int → Int → Option ((List Int) × Int × Unit)) (x1 : (List Int)) (x2 : (List Int)) (x3 : (List Int)) (x4 : Int) (x5 : Int) : Option ((List Int) × Int × Unit) :=
  (bif decide (x5 < (↑x2.length : Int)) then (if (0 : Int) ≤ x4 ∧ x4 < (↑x1.length : Int) then (if (0 : Int) ≤ x5 ∧ x5 < (↑x2.length : Int) then (if (x3.length + ((List.replicate 1 ((0 : Int))).set 0 (IntKind.i64.wrap (x1.getD x4.toNat ((0 : Int)) - x2.getD x5.toNat ((0 : Int))))).length) * 8 ≤ 140737488355328 then (rc x1 x2 (x3 ++ (List.replicate 1 ((0 : Int))).set 0 (IntKind.i64.wrap (x1.getD x4.toNat ((0 : Int)) - x2.getD x5.toNat ((0 : Int))))) x4 (IntKind.i64.wrap (x5 + (1 : Int)))) else none) else none) else none) else some ((x3, x5, ())))
noncomputable def impll23_2 (K : Nat) : Nat → (List Int) → (List Int) → (List Int) → Int → Int → Option ((List Int) × Int × Unit)
  | 0, _, _, _, _, _ => none
  | k + 1, x1, x2, x3, x4, x5 => implb23_2 K (impll23_2 K k) x1 x2 x3 x4 x5
noncomputable def n23_2 (K : Nat) : Lent := ⟨[0, 1, 7, 8, 9], i23_2, [22, 23, 24, 25, 28, 29, 30, 31, 32, 33, 34, 35, 36, 37, 38, 39, 26, 27], [2], false, res23, fun x => impll23_2 K K x.1 x.2.1 x.2.2.1 x.2.2.2.1 x.2.2.2.2.1, []⟩
theorem q23_2 (K : Nat) (rc : (List Int) → (List Int) → (List Int) → Int → Int → Option ((List Int) × Int × Unit)) (x1 : (List Int)) (x2 : (List Int)) (x3 : (List Int)) (x4 : Int) (x5 : Int) : evLoop (L23_0 K) 3 23 Try.f23.results.toList (loopOf 2 (codeOf Try.f23)) 2 [0, 1, 7, 8, 9] [] i23_2 [2] false res23 (fun x => rc x.1 x.2.1 x.2.2.1 x.2.2.2.1 x.2.2.2.2.1) (x1, x2, x3, x4, x5, ()) = implb23_2 K rc x1 x2 x3 x4 x5 := by kernel_rfl
theorem lp23_2 : loopsIn (loopOf 2 (codeOf Try.f23)) 2 = [] := by kernel_rfl
theorem n23_2_ok (K : Nat) : LentOk Try.prog Try.f23 (loopOf 2 (codeOf Try.f23)) (n23_2 K) := lentOk_k (slots := [0, 1, 7, 8, 9]) (ali := []) (ins := i23_2) (writes := [22, 23, 24, 25, 28, 29, 30, 31, 32, 33, 34, 35, 36, 37, 38, 39, 26, 27]) (exits := [2]) (rets := false) (rs := res23) (d := 3) (lib23_0 K) lp23_2 trivial (by kernel_rfl) (by kernel_rfl) (by kernel_rfl) (by kernel_rfl) (by kernel_rfl) (fun k x => impll23_2 K k x.1 x.2.1 x.2.2.1 x.2.2.2.1 x.2.2.2.2.1) (fun _ => rfl) (fun k x => q23_2 K (impll23_2 K k) x.1 x.2.1 x.2.2.1 x.2.2.2.1 x.2.2.2.2.1) K
noncomputable def L23_1 (K : Nat) : Lib := mkLib ti [(59, [e59 K]), (60, [e60 K])] [] 23 [(2, [n23_2 K])]
theorem lib23_1 (K : Nat) : LibOk Try.prog (L23_1 K) := libOk_mk (ents := [(59, [e59 K]), (60, [e60 K])]) (bodies := []) (loops := [(2, [n23_2 K])]) order tiOk ⟨one_ent (e59_ok K), one_ent (e60_ok K), trivial⟩ trivial Try.func23 rfl lp23 ⟨no_lent, one_lent (n23_2_ok K), trivial⟩
noncomputable def implb23_0 (K : Nat) (rc : (List Int) → (List Int) → (List Int) → Int → Option ((List Int) × Int × Unit)) (x1 : (List Int)) (x2 : (List Int)) (x3 : (List Int)) (x4 : Int) : Option ((List Int) × Int × Unit) :=
  (bif decide (x4 < (↑x1.length : Int)) then (ob (impll23_2 K K x1 x2 x3 x4 ((0 : Int))) fun y1 => (rc x1 x2 y1.1 (IntKind.i64.wrap (x4 + (1 : Int))))) else some ((x3, x4, ())))
noncomputable def impll23_0 (K : Nat) : Nat → (List Int) → (List Int) → (List Int) → Int → Option ((List Int) × Int × Unit)
  | 0, _, _, _, _ => none
  | k + 1, x1, x2, x3, x4 => implb23_0 K (impll23_0 K k) x1 x2 x3 x4
noncomputable def n23_0 (K : Nat) : Lent := ⟨[0, 1, 7, 8], i23_0, [16, 17, 18, 19, 9, 22, 23, 24, 25, 28, 29, 30, 31, 32, 33, 34, 35, 36, 37, 38, 39, 26, 27, 20, 21], [0], false, res23, fun x => impll23_0 K K x.1 x.2.1 x.2.2.1 x.2.2.2.1, []⟩
theorem q23_0 (K : Nat) (rc : (List Int) → (List Int) → (List Int) → Int → Option ((List Int) × Int × Unit)) (x1 : (List Int)) (x2 : (List Int)) (x3 : (List Int)) (x4 : Int) : evLoop (L23_1 K) 3 23 Try.f23.results.toList (loopOf 0 (codeOf Try.f23)) 0 [0, 1, 7, 8] [] i23_0 [0] false res23 (fun x => rc x.1 x.2.1 x.2.2.1 x.2.2.2.1) (x1, x2, x3, x4, ()) = implb23_0 K rc x1 x2 x3 x4 := by kernel_rfl
theorem lp23_0 : loopsIn (loopOf 0 (codeOf Try.f23)) 0 = [(2, loopOf 2 (codeOf Try.f23))] := by kernel_rfl
theorem n23_0_ok (K : Nat) : LentOk Try.prog Try.f23 (loopOf 0 (codeOf Try.f23)) (n23_0 K) := lentOk_k (slots := [0, 1, 7, 8]) (ali := []) (ins := i23_0) (writes := [16, 17, 18, 19, 9, 22, 23, 24, 25, 28, 29, 30, 31, 32, 33, 34, 35, 36, 37, 38, 39, 26, 27, 20, 21]) (exits := [0]) (rets := false) (rs := res23) (d := 3) (lib23_1 K) lp23_0 ⟨one_lent (n23_2_ok K), trivial⟩ (by kernel_rfl) (by kernel_rfl) (by kernel_rfl) (by kernel_rfl) (by kernel_rfl) (fun k x => impll23_0 K k x.1 x.2.1 x.2.2.1 x.2.2.2.1) (fun _ => rfl) (fun k x => q23_0 K (impll23_0 K k) x.1 x.2.1 x.2.2.1 x.2.2.2.1) K
noncomputable def L23_2 (K : Nat) : Lib := mkLib ti [(59, [e59 K]), (60, [e60 K])] [] 23 [(2, [n23_2 K]), (0, [n23_0 K])]
theorem lib23_2 (K : Nat) : LibOk Try.prog (L23_2 K) := libOk_mk (ents := [(59, [e59 K]), (60, [e60 K])]) (bodies := []) (loops := [(2, [n23_2 K]), (0, [n23_0 K])]) order tiOk ⟨one_ent (e59_ok K), one_ent (e60_ok K), trivial⟩ trivial Try.func23 rfl lp23 ⟨one_lent (n23_0_ok K), one_lent (n23_2_ok K), trivial⟩
noncomputable def implf23 (K : Nat) (x1 : (List Int)) (x2 : (List Int)) : Option ((List Int) × Int) :=
  (ob (implf59 K x1 x2) fun y1 => (bif y1 != (0 : Int) then some (([], y1)) else (ob (impll23_0 K K x1 x2 [] ((0 : Int))) fun y2 => (ob (implf60 K y2.1) fun y3 => some ((y3.1, y3.2))))))
theorem q23 (K : Nat) (x1 : (List Int)) (x2 : (List Int)) : evFnK (α := (List Int) × Int) (L23_2 K) 3 23 Try.f23.results.toList (codeOf Try.f23) ins23 res23 (fun p => (p.1.1, p.1.2.1)) (x1, x2, ()) = implf23 K x1 x2 := by kernel_rfl
noncomputable def e23 (K : Nat) : Ent := ⟨ins23, res23, (List Int) × Int, fun x => implf23 K x.1 x.2.1, fun _ => (fun y => ((y.1, y.2, ()), (()))), false⟩
theorem e23_ok (K : Nat) : EntOk Try.prog 23 (e23 K) := entOk_k (ins := ins23) (rs := res23) (α := (List Int) × Int) (lib23_2 K) (d := 3) Try.func23 rfl (by kernel_rfl) (by kernel_rfl) (by kernel_rfl) (fun x => implf23 K x.1 x.2.1) (fun p => (p.1.1, p.1.2.1)) (fun y => ((y.1, y.2, ()), (()))) (fun _ => rfl) (fun x => q23 K x.1 x.2.1)

/-! diaphone/diaphonelaw05.EchoSums -/
abbrev ins3 : Fs := [(.dat (.sl (.int .i64)), false), (.dat (.sl (.int .i64)), false)]
abbrev res3 : Sh := .dat (.bool)
theorem lp3 : loopsIn (codeOf Try.f3) 0 = [] := by kernel_rfl
noncomputable def L3_0 (K : Nat) : Lib := mkLib ti [(18, [e18 K]), (19, [e19 K]), (58, [e58 K]), (21, [e21 K]), (23, [e23 K]), (24, [e24 K])] [(20, Try.f20), (22, Try.f22)] 3 []
theorem lib3_0 (K : Nat) : LibOk Try.prog (L3_0 K) := libOk_mk (ents := [(18, [e18 K]), (19, [e19 K]), (58, [e58 K]), (21, [e21 K]), (23, [e23 K]), (24, [e24 K])]) (bodies := [(20, Try.f20), (22, Try.f22)]) (loops := []) order tiOk ⟨one_ent (e18_ok K), one_ent (e19_ok K), one_ent (e58_ok K), one_ent (e21_ok K), one_ent (e23_ok K), one_ent (e24_ok K), trivial⟩ ⟨bod20, bod22, trivial⟩ Try.func3 rfl lp3 trivial
noncomputable def implf3 (K : Nat) (x1 : (List Int)) (x2 : (List Int)) : Option (Bool) :=
  (ob (implf18 K (((List.replicate 2 []).set 0 x1).set 1 x2)) fun y1 => (bif y1 then (ob (implf19 K) fun y2 => some (y2)) else (ob (implf58 K x1 x2 ((1 : Int))) fun y3 => (ob (implf21 K x1 x2) fun y4 => (ob (implf58 K x1 x2 (-1 : Int)) fun y5 => (ob (implf23 K x1 x2) fun y6 => (ob (implf24 K y3.1 y4.1) fun y7 => (bif y7 then (bif y3.2 == y4.2 then (ob (implf24 K y5.1 y6.1) fun y8 => (bif y8 then (bif y5.2 == y6.2 then (bif (y3.2 == (5 : Int)) == (y5.2 == (5 : Int)) then (ob (implf19 K) fun y9 => some (y9)) else some (false)) else some (false)) else some (false))) else some (false)) else some (false)))))))))
theorem q3 (K : Nat) (x1 : (List Int)) (x2 : (List Int)) : evFnK (α := Bool) (L3_0 K) 3 3 Try.f3.results.toList (codeOf Try.f3) ins3 res3 (fun p => p.1) (x1, x2, ()) = implf3 K x1 x2 := by kernel_rfl
noncomputable def e3 (K : Nat) : Ent := ⟨ins3, res3, Bool, fun x => implf3 K x.1 x.2.1, fun _ => (fun y => (y, (()))), false⟩
theorem e3_ok (K : Nat) : EntOk Try.prog 3 (e3 K) := entOk_k (ins := ins3) (rs := res3) (α := Bool) (lib3_0 K) (d := 3) Try.func3 rfl (by kernel_rfl) (by kernel_rfl) (by kernel_rfl) (fun x => implf3 K x.1 x.2.1) (fun p => p.1) (fun y => (y, (()))) (fun _ => rfl) (fun x => q3 K x.1 x.2.1)

/-! diaphone/diaphoneref05.rows -/
abbrev ins64 : Fs := [(.dat (.sl (.int .i64)), false), (.dat (.int .i64), false), (.dat (.int .i64), false)]
abbrev res64 : Sh := .own (.sl (.int .i64))
theorem lp64 : loopsIn (codeOf Try.f64) 0 = [(0, loopOf 0 (codeOf Try.f64)), (2, loopOf 2 (codeOf Try.f64)), (4, loopOf 4 (codeOf Try.f64)), (6, loopOf 6 (codeOf Try.f64))] := by kernel_rfl
noncomputable def L64_0 (K : Nat) : Lib := mkLib ti [] [] 64 []
theorem lib64_0 (K : Nat) : LibOk Try.prog (L64_0 K) := libOk_mk (ents := []) (bodies := []) (loops := []) order tiOk trivial trivial Try.func64 rfl lp64 ⟨no_lent, no_lent, no_lent, no_lent, trivial⟩
abbrev i64_0 : Fs := [(.dat (.sl (.int Go.IntKind.i64)), false), (.dat (.int Go.IntKind.i64), false), (.dat (.int Go.IntKind.i64), false), (.own (.sl (.int Go.IntKind.i64)), true), (.dat (.int Go.IntKind.i64), true)]
abbrev i64_2 : Fs := [(.dat (.sl (.int Go.IntKind.i64)), false), (.dat (.int Go.IntKind.i64), false), (.dat (.int Go.IntKind.i64), false), (.own (.sl (.int Go.IntKind.i64)), false), (.dat (.int Go.IntKind.i64), false), (.own (.sl (.int .i64)), true), (.dat (.int Go.IntKind.i64), true)]
abbrev i64_4 : Fs := [(.dat (.sl (.int Go.IntKind.i64)), false), (.dat (.int Go.IntKind.i64), false), (.dat (.int Go.IntKind.i64), false), (.own (.sl (.int Go.IntKind.i64)), false), (.dat (.int Go.IntKind.i64), false), (.own (.sl (.int Go.IntKind.i64)), true), (.dat (.int Go.IntKind.i64), false), (.dat (.int Go.IntKind.i64), true)]
noncomputable def implb64_4 (K : Nat) (rc : (List Int) → Int → Int → (List (List Int)) → Int → (List (List Int)) → Int → Int → Option ((List (List Int)) × Int × Unit)) (x1 : (List Int)) (x2 : Int) (x3 : Int) (x4 : (List (List Int))) (x5 : Int) (x6 : (List (List Int))) (x7 : Int) (x8 : Int) : Option ((List (List Int)) × Int × Unit) :=
  (bif decide (x8 < (↑x1.length : Int)) then (if (0 : Int) ≤ x8 ∧ x8 < (↑x1.length : Int) then (if (0 : Int) ≤ x7 ∧ x7 < (↑x4.length : Int) then (if (0 : Int) ≤ x7 ∧ x7 < (↑x4.length : Int) then (if (0 : Int) ≤ IntKind.i64.wrap ((↑(x4.getD x7.toNat []).length : Int) - (1 : Int)) ∧ IntKind.i64.wrap ((↑(x4.getD x7.toNat []).length : Int) - (1 : Int)) < (↑(x4.getD x7.toNat []).length : Int) then (bif decide (x1.getD x8.toNat ((0 : Int)) > (x4.getD x7.toNat []).getD (IntKind.i64.wrap ((↑(x4.getD x7.toNat []).length : Int) - (1 : Int))).toNat ((0 : Int))) then (if (0 : Int) ≤ x8 ∧ x8 < (↑x1.length : Int) then (bif decide (x1.getD x8.toNat ((0 : Int)) < x3) then (bif x8 == (0 : Int) then (if (0 : Int) ≤ x7 ∧ x7 < (↑x4.length : Int) then (if ((List.replicate 0 ((0 : Int))).length + (x4.getD x7.toNat []).length) * 8 ≤ 140737488355328 then (if (0 : Int) ≤ x8 ∧ x8 < (↑x1.length : Int) then (if ((List.replicate 0 ((0 : Int)) ++ x4.getD x7.toNat []).length + ((List.replicate 1 ((0 : Int))).set 0 (x1.getD x8.toNat ((0 : Int)))).length) * 8 ≤ 140737488355328 then (if (x6.length + ((List.replicate 1 []).set 0 (List.replicate 0 ((0 : Int)) ++ x4.getD x7.toNat [] ++ (List.replicate 1 ((0 : Int))).set 0 (x1.getD x8.toNat ((0 : Int))))).length) * 24 ≤ 140737488355328 then (rc x1 x2 x3 x4 x5 (x6 ++ (List.replicate 1 []).set 0 (List.replicate 0 ((0 : Int)) ++ x4.getD x7.toNat [] ++ (List.replicate 1 ((0 : Int))).set 0 (x1.getD x8.toNat ((0 : Int))))) x7 (IntKind.i64.wrap (x8 + (1 : Int)))) else none) else none) else none) else none) else none) else (if (0 : Int) ≤ IntKind.i64.wrap (x8 - (1 : Int)) ∧ IntKind.i64.wrap (x8 - (1 : Int)) < (↑x1.length : Int) then (if (0 : Int) ≤ x8 ∧ x8 < (↑x1.length : Int) then (bif decide (x1.getD (IntKind.i64.wrap (x8 - (1 : Int))).toNat ((0 : Int)) < x1.getD x8.toNat ((0 : Int))) then (if (0 : Int) ≤ x7 ∧ x7 < (↑x4.length : Int) then (if ((List.replicate 0 ((0 : Int))).length + (x4.getD x7.toNat []).length) * 8 ≤ 140737488355328 then (if (0 : Int) ≤ x8 ∧ x8 < (↑x1.length : Int) then (if ((List.replicate 0 ((0 : Int)) ++ x4.getD x7.toNat []).length + ((List.replicate 1 ((0 : Int))).set 0 (x1.getD x8.toNat ((0 : Int)))).length) * 8 ≤ 140737488355328 then (if (x6.length + ((List.replicate 1 []).set 0 (List.replicate 0 ((0 : Int)) ++ x4.getD x7.toNat [] ++ (List.replicate 1 ((0 : Int))).set 0 (x1.getD x8.toNat ((0 : Int))))).length) * 24 ≤ 140737488355328 then (rc x1 x2 x3 x4 x5 (x6 ++ (List.replicate 1 []).set 0 (List.replicate 0 ((0 : Int)) ++ x4.getD x7.toNat [] ++ (List.replicate 1 ((0 : Int))).set 0 (x1.getD x8.toNat ((0 : Int))))) x7 (IntKind.i64.wrap (x8 + (1 : Int)))) else none) else none) else none) else none) else none) else (rc x1 x2 x3 x4 x5 x6 x7 (IntKind.i64.wrap (x8 + (1 : Int))))) else none) else none)) else (rc x1 x2 x3 x4 x5 x6 x7 (IntKind.i64.wrap (x8 + (1 : Int))))) else none) else (rc x1 x2 x3 x4 x5 x6 x7 (IntKind.i64.wrap (x8 + (1 : Int))))) else none) else none) else none) else none) else some ((x6, x8, ())))
noncomputable def impll64_4 (K : Nat) : Nat → (List Int) → Int → Int → (List (List Int)) → Int → (List (List Int)) → Int → Int → Option ((List (List Int)) × Int × Unit)
  | 0, _, _, _, _, _, _, _, _ => none
  | k + 1, x1, x2, x3, x4, x5, x6, x7, x8 => implb64_4 K (impll64_4 K k) x1 x2 x3 x4 x5 x6 x7 x8
noncomputable def n64_4 (K : Nat) : Lent := ⟨[0, 1, 2, 7, 8, 9, 10, 11], i64_4, [26, 27, 28, 29, 32, 33, 34, 35, 36, 37, 38, 39, 40, 41, 42, 43, 44, 45, 46, 47, 48, 49, 50, 51, 52, 53, 54, 55, 56, 57, 58, 59, 60, 61, 62, 63, 64, 65, 66, 67, 68, 69, 70, 71, 72, 73, 74, 75, 76, 77, 78, 79, 80, 81, 82, 83, 84, 85, 86, 87, 30, 31], [4], false, res64, fun x => impll64_4 K K x.1 x.2.1 x.2.2.1 x.2.2.2.1 x.2.2.2.2.1 x.2.2.2.2.2.1 x.2.2.2.2.2.2.1 x.2.2.2.2.2.2.2.1, []⟩
theorem q64_4 (K : Nat) (rc : (List Int) → Int → Int → (List (List Int)) → Int → (List (List Int)) → Int → Int → Option ((List (List Int)) × Int × Unit)) (x1 : (List Int)) (x2 : Int) (x3 : Int) (x4 : (List (List Int))) (x5 : Int) (x6 : (List (List Int))) (x7 : Int) (x8 : Int) : evLoop (L64_0 K) 3 64 Try.f64.results.toList (loopOf 4 (codeOf Try.f64)) 4 [0, 1, 2, 7, 8, 9, 10, 11] [] i64_4 [4] false res64 (fun x => rc x.1 x.2.1 x.2.2.1 x.2.2.2.1 x.2.2.2.2.1 x.2.2.2.2.2.1 x.2.2.2.2.2.2.1 x.2.2.2.2.2.2.2.1) (x1, x2, x3, x4, x5, x6, x7, x8, ()) = implb64_4 K rc x1 x2 x3 x4 x5 x6 x7 x8 := by kernel_rfl
theorem lp64_4 : loopsIn (loopOf 4 (codeOf Try.f64)) 4 = [] := by kernel_rfl
theorem n64_4_ok (K : Nat) : LentOk Try.prog Try.f64 (loopOf 4 (codeOf Try.f64)) (n64_4 K) := lentOk_k (slots := [0, 1, 2, 7, 8, 9, 10, 11]) (ali := []) (ins := i64_4) (writes := [26, 27, 28, 29, 32, 33, 34, 35, 36, 37, 38, 39, 40, 41, 42, 43, 44, 45, 46, 47, 48, 49, 50, 51, 52, 53, 54, 55, 56, 57, 58, 59, 60, 61, 62, 63, 64, 65, 66, 67, 68, 69, 70, 71, 72, 73, 74, 75, 76, 77, 78, 79, 80, 81, 82, 83, 84, 85, 86, 87, 30, 31]) (exits := [4]) (rets := false) (rs := res64) (d := 3) (lib64_0 K) lp64_4 trivial (by kernel_rfl) (by kernel_rfl) (by kernel_rfl) (by kernel_rfl) (by kernel_rfl) (fun k x => impll64_4 K k x.1 x.2.1 x.2.2.1 x.2.2.2.1 x.2.2.2.2.1 x.2.2.2.2.2.1 x.2.2.2.2.2.2.1 x.2.2.2.2.2.2.2.1) (fun _ => rfl) (fun k x => q64_4 K (impll64_4 K k) x.1 x.2.1 x.2.2.1 x.2.2.2.1 x.2.2.2.2.1 x.2.2.2.2.2.1 x.2.2.2.2.2.2.1 x.2.2.2.2.2.2.2.1) K
noncomputable def L64_1 (K : Nat) : Lib := mkLib ti [] [] 64 [(4, [n64_4 K])]
theorem lib64_1 (K : Nat) : LibOk Try.prog (L64_1 K) := libOk_mk (ents := []) (bodies := []) (loops := [(4, [n64_4 K])]) order tiOk trivial trivial Try.func64 rfl lp64 ⟨no_lent, no_lent, one_lent (n64_4_ok K), no_lent, trivial⟩
noncomputable def implb64_2 (K : Nat) (rc : (List Int) → Int → Int → (List (List Int)) → Int → (List (List Int)) → Int → Option ((List (List Int)) × Int × Unit)) (x1 : (List Int)) (x2 : Int) (x3 : Int) (x4 : (List (List Int))) (x5 : Int) (x6 : (List (List Int))) (x7 : Int) : Option ((List (List Int)) × Int × Unit) :=
  (bif decide (x7 < (↑x4.length : Int)) then (ob (impll64_4 K K x1 x2 x3 x4 x5 x6 x7 ((0 : Int))) fun y1 => (rc x1 x2 x3 x4 x5 y1.1 (IntKind.i64.wrap (x7 + (1 : Int))))) else some ((x6, x7, ())))
noncomputable def impll64_2 (K : Nat) : Nat → (List Int) → Int → Int → (List (List Int)) → Int → (List (List Int)) → Int → Option ((List (List Int)) × Int × Unit)
  | 0, _, _, _, _, _, _, _ => none
  | k + 1, x1, x2, x3, x4, x5, x6, x7 => implb64_2 K (impll64_2 K k) x1 x2 x3 x4 x5 x6 x7
noncomputable def n64_2 (K : Nat) : Lent := ⟨[0, 1, 2, 7, 8, 9, 10], i64_2, [20, 21, 22, 23, 11, 26, 27, 28, 29, 32, 33, 34, 35, 36, 37, 38, 39, 40, 41, 42, 43, 44, 45, 46, 47, 48, 49, 50, 51, 52, 53, 54, 55, 56, 57, 58, 59, 60, 61, 62, 63, 64, 65, 66, 67, 68, 69, 70, 71, 72, 73, 74, 75, 76, 77, 78, 79, 80, 81, 82, 83, 84, 85, 86, 87, 30, 31, 24, 25], [2], false, res64, fun x => impll64_2 K K x.1 x.2.1 x.2.2.1 x.2.2.2.1 x.2.2.2.2.1 x.2.2.2.2.2.1 x.2.2.2.2.2.2.1, []⟩
theorem q64_2 (K : Nat) (rc : (List Int) → Int → Int → (List (List Int)) → Int → (List (List Int)) → Int → Option ((List (List Int)) × Int × Unit)) (x1 : (List Int)) (x2 : Int) (x3 : Int) (x4 : (List (List Int))) (x5 : Int) (x6 : (List (List Int))) (x7 : Int) : evLoop (L64_1 K) 3 64 Try.f64.results.toList (loopOf 2 (codeOf Try.f64)) 2 [0, 1, 2, 7, 8, 9, 10] [] i64_2 [2] false res64 (fun x => rc x.1 x.2.1 x.2.2.1 x.2.2.2.1 x.2.2.2.2.1 x.2.2.2.2.2.1 x.2.2.2.2.2.2.1) (x1, x2, x3, x4, x5, x6, x7, ()) = implb64_2 K rc x1 x2 x3 x4 x5 x6 x7 := by kernel_rfl
theorem lp64_2 : loopsIn (loopOf 2 (codeOf Try.f64)) 2 = [(4, loopOf 4 (codeOf Try.f64))] := by kernel_rfl
theorem n64_2_ok (K : Nat) : LentOk Try.prog Try.f64 (loopOf 2 (codeOf Try.f64)) (n64_2 K) := lentOk_k (slots := [0, 1, 2, 7, 8, 9, 10]) (ali := []) (ins := i64_2) (writes := [20, 21, 22, 23, 11, 26, 27, 28, 29, 32, 33, 34, 35, 36, 37, 38, 39, 40, 41, 42, 43, 44, 45, 46, 47, 48, 49, 50, 51, 52, 53, 54, 55, 56, 57, 58, 59, 60, 61, 62, 63, 64, 65, 66, 67, 68, 69, 70, 71, 72, 73, 74, 75, 76, 77, 78, 79, 80, 81, 82, 83, 84, 85, 86, 87, 30, 31, 24, 25]) (exits := [2]) (rets := false) (rs := res64) (d := 3) (lib64_1 K) lp64_2 ⟨one_lent (n64_4_ok K), trivial⟩ (by kernel_rfl) (by kernel_rfl) (by kernel_rfl) (by kernel_rfl) (by kernel_rfl) (fun k x => impll64_2 K k x.1 x.2.1 x.2.2.1 x.2.2.2.1 x.2.2.2.2.1 x.2.2.2.2.2.1 x.2.2.2.2.2.2.1) (fun _ => rfl) (fun k x => q64_2 K (impll64_2 K k) x.1 x.2.1 x.2.2.1 x.2.2.2.1 x.2.2.2.2.1 x.2.2.2.2.2.1 x.2.2.2.2.2.2.1) K
noncomputable def L64_2 (K : Nat) : Lib := mkLib ti [] [] 64 [(4, [n64_4 K]), (2, [n64_2 K])]
theorem lib64_2 (K : Nat) : LibOk Try.prog (L64_2 K) := libOk_mk (ents := []) (bodies := []) (loops := [(4, [n64_4 K]), (2, [n64_2 K])]) order tiOk trivial trivial Try.func64 rfl lp64 ⟨no_lent, one_lent (n64_2_ok K), one_lent (n64_4_ok K), no_lent, trivial⟩
noncomputable def implb64_0 (K : Nat) (rc : (List Int) → Int → Int → (List (List Int)) → Int → Option ((List (List Int)) × Int × Unit)) (x1 : (List Int)) (x2 : Int) (x3 : Int) (x4 : (List (List Int))) (x5 : Int) : Option ((List (List Int)) × Int × Unit) :=
  (bif decide (x5 < x2) then (ob (impll64_2 K K x1 x2 x3 x4 x5 [] ((0 : Int))) fun y1 => (rc x1 x2 x3 y1.1 (IntKind.i64.wrap (x5 + (1 : Int))))) else some ((x4, x5, ())))
noncomputable def impll64_0 (K : Nat) : Nat → (List Int) → Int → Int → (List (List Int)) → Int → Option ((List (List Int)) × Int × Unit)
  | 0, _, _, _, _, _ => none
  | k + 1, x1, x2, x3, x4, x5 => implb64_0 K (impll64_0 K k) x1 x2 x3 x4 x5
noncomputable def n64_0 (K : Nat) : Lent := ⟨[0, 1, 2, 7, 8], i64_0, [15, 16, 17, 9, 10, 20, 21, 22, 23, 11, 26, 27, 28, 29, 32, 33, 34, 35, 36, 37, 38, 39, 40, 41, 42, 43, 44, 45, 46, 47, 48, 49, 50, 51, 52, 53, 54, 55, 56, 57, 58, 59, 60, 61, 62, 63, 64, 65, 66, 67, 68, 69, 70, 71, 72, 73, 74, 75, 76, 77, 78, 79, 80, 81, 82, 83, 84, 85, 86, 87, 30, 31, 24, 25, 88, 18, 19], [0], false, res64, fun x => impll64_0 K K x.1 x.2.1 x.2.2.1 x.2.2.2.1 x.2.2.2.2.1, []⟩
theorem q64_0 (K : Nat) (rc : (List Int) → Int → Int → (List (List Int)) → Int → Option ((List (List Int)) × Int × Unit)) (x1 : (List Int)) (x2 : Int) (x3 : Int) (x4 : (List (List Int))) (x5 : Int) : evLoop (L64_2 K) 3 64 Try.f64.results.toList (loopOf 0 (codeOf Try.f64)) 0 [0, 1, 2, 7, 8] [] i64_0 [0] false res64 (fun x => rc x.1 x.2.1 x.2.2.1 x.2.2.2.1 x.2.2.2.2.1) (x1, x2, x3, x4, x5, ()) = implb64_0 K rc x1 x2 x3 x4 x5 := by kernel_rfl
theorem lp64_0 : loopsIn (loopOf 0 (codeOf Try.f64)) 0 = [(2, loopOf 2 (codeOf Try.f64)), (4, loopOf 4 (codeOf Try.f64))] := by kernel_rfl
theorem n64_0_ok (K : Nat) : LentOk Try.prog Try.f64 (loopOf 0 (codeOf Try.f64)) (n64_0 K) := lentOk_k (slots := [0, 1, 2, 7, 8]) (ali := []) (ins := i64_0) (writes := [15, 16, 17, 9, 10, 20, 21, 22, 23, 11, 26, 27, 28, 29, 32, 33, 34, 35, 36, 37, 38, 39, 40, 41, 42, 43, 44, 45, 46, 47, 48, 49, 50, 51, 52, 53, 54, 55, 56, 57, 58, 59, 60, 61, 62, 63, 64, 65, 66, 67, 68, 69, 70, 71, 72, 73, 74, 75, 76, 77, 78, 79, 80, 81, 82, 83, 84, 85, 86, 87, 30, 31, 24, 25, 88, 18, 19]) (exits := [0]) (rets := false) (rs := res64) (d := 3) (lib64_2 K) lp64_0 ⟨one_lent (n64_2_ok K), one_lent (n64_4_ok K), trivial⟩ (by kernel_rfl) (by kernel_rfl) (by kernel_rfl) (by kernel_rfl) (by kernel_rfl) (fun k x => impll64_0 K k x.1 x.2.1 x.2.2.1 x.2.2.2.1 x.2.2.2.2.1) (fun _ => rfl) (fun k x => q64_0 K (impll64_0 K k) x.1 x.2.1 x.2.2.1 x.2.2.2.1 x.2.2.2.2.1) K
noncomputable def L64_3 (K : Nat) : Lib := mkLib ti [] [] 64 [(4, [n64_4 K]), (2, [n64_2 K]), (0, [n64_0 K])]
theorem lib64_3 (K : Nat) : LibOk Try.prog (L64_3 K) := libOk_mk (ents := []) (bodies := []) (loops := [(4, [n64_4 K]), (2, [n64_2 K]), (0, [n64_0 K])]) order tiOk trivial trivial Try.func64 rfl lp64 ⟨one_lent (n64_0_ok K), one_lent (n64_2_ok K), one_lent (n64_4_ok K), no_lent, trivial⟩
abbrev i64_6 : Fs := [(.dat (.int Go.IntKind.i64), false), (.own (.sl (.int Go.IntKind.i64)), true), (.dat (.int Go.IntKind.i64), true)]
noncomputable def implb64_6 (K : Nat) (rc : Int → (List (List Int)) → Int → Option ((List (List Int)) × Int × Unit)) (x1 : Int) (x2 : (List (List Int))) (x3 : Int) : Option ((List (List Int)) × Int × Unit) :=
  (bif decide (x3 < (↑x2.length : Int)) then (if (0 : Int) ≤ x3 ∧ x3 < (↑x2.length : Int) then none else none) else some ((x2, x3, ())))
noncomputable def impll64_6 (K : Nat) : Nat → Int → (List (List Int)) → Int → Option ((List (List Int)) × Int × Unit)
  | 0, _, _, _ => none
  | k + 1, x1, x2, x3 => implb64_6 K (impll64_6 K k) x1 x2 x3
noncomputable def n64_6 (K : Nat) : Lent := ⟨[2, 7, 12], i64_6, [89, 90, 91, 92, 95, 96, 97, 98, 99, 100, 101, 102, 103, 104, 93, 94], [6], false, res64, fun x => impll64_6 K K x.1 x.2.1 x.2.2.1, []⟩
theorem q64_6 (K : Nat) (rc : Int → (List (List Int)) → Int → Option ((List (List Int)) × Int × Unit)) (x1 : Int) (x2 : (List (List Int))) (x3 : Int) : evLoop (L64_3 K) 3 64 Try.f64.results.toList (loopOf 6 (codeOf Try.f64)) 6 [2, 7, 12] [] i64_6 [6] false res64 (fun x => rc x.1 x.2.1 x.2.2.1) (x1, x2, x3, ()) = implb64_6 K rc x1 x2 x3 := by kernel_rfl
theorem lp64_6 : loopsIn (loopOf 6 (codeOf Try.f64)) 6 = [] := by kernel_rfl
theorem n64_6_ok (K : Nat) : LentOk Try.prog Try.f64 (loopOf 6 (codeOf Try.f64)) (n64_6 K) := lentOk_k (slots := [2, 7, 12]) (ali := []) (ins := i64_6) (writes := [89, 90, 91, 92, 95, 96, 97, 98, 99, 100, 101, 102, 103, 104, 93, 94]) (exits := [6]) (rets := false) (rs := res64) (d := 3) (lib64_3 K) lp64_6 trivial (by kernel_rfl) (by kernel_rfl) (by kernel_rfl) (by kernel_rfl) (by kernel_rfl) (fun k x => impll64_6 K k x.1 x.2.1 x.2.2.1) (fun _ => rfl) (fun k x => q64_6 K (impll64_6 K k) x.1 x.2.1 x.2.2.1) K
noncomputable def L64_4 (K : Nat) : Lib := mkLib ti [] [] 64 [(4, [n64_4 K]), (2, [n64_2 K]), (0, [n64_0 K]), (6, [n64_6 K])]
theorem lib64_4 (K : Nat) : LibOk Try.prog (L64_4 K) := libOk_mk (ents := []) (bodies := []) (loops := [(4, [n64_4 K]), (2, [n64_2 K]), (0, [n64_0 K]), (6, [n64_6 K])]) order tiOk trivial trivial Try.func64 rfl lp64 ⟨one_lent (n64_0_ok K), one_lent (n64_2_ok K), one_lent (n64_4_ok K), one_lent (n64_6_ok K), trivial⟩
noncomputable def implf64 (K : Nat) (x1 : (List Int)) (x2 : Int) (x3 : Int) : Option ((List (List Int))) :=
  (ob (impll64_0 K K x1 x2 x3 ((List.replicate 1 []).set 0 ((List.replicate 1 ((0 : Int))).set 0 ((0 : Int)))) ((0 : Int))) fun y1 => (ob (impll64_6 K K x3 y1.1 ((0 : Int))) fun y2 => some (y2.1)))
theorem q64 (K : Nat) (x1 : (List Int)) (x2 : Int) (x3 : Int) : evFnK (α := (List (List Int))) (L64_4 K) 3 64 Try.f64.results.toList (codeOf Try.f64) ins64 res64 (fun p => p.1) (x1, x2, x3, ()) = implf64 K x1 x2 x3 := by kernel_rfl
noncomputable def e64 (K : Nat) : Ent := ⟨ins64, res64, (List (List Int)), fun x => implf64 K x.1 x.2.1 x.2.2.1, fun _ => (fun y => (y, (()))), false⟩
theorem e64_ok (K : Nat) : EntOk Try.prog 64 (e64 K) := entOk_k (ins := ins64) (rs := res64) (α := (List (List Int))) (lib64_4 K) (d := 3) Try.func64 rfl (by kernel_rfl) (by kernel_rfl) (by kernel_rfl) (fun x => implf64 K x.1 x.2.1 x.2.2.1) (fun p => p.1) (fun y => (y, (()))) (fun _ => rfl) (fun x => q64 K x.1 x.2.1 x.2.2.1)

end Go.Proofs.Ytdgibokmaannjaa
