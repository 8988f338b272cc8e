/- What the functions compute: printed by a program of this claim's author. -/
import Derived.Test.YtbojnkcolamneaaF2
set_option maxRecDepth 100000
set_option linter.unusedVariables false
namespace Go.Proofs.Ytbojnkcolamneaa
open Go Go.Pv

/-! diaphone/diaphoneref04.isSet -/
abbrev ins73 : Fs := [(.dat (.sl (.int .i64)), false), (.dat (.int .i64), false)]
abbrev res73 : Sh := .dat (.bool)
theorem lp73 : loopsIn (codeOf Try.f73) 0 = [(0, loopOf 0 (codeOf Try.f73))] := by kernel_rfl
noncomputable def L73_0 (K : Nat) : Lib := mkLib ti [(65, [e65 K])] [] 73 []
theorem lib73_0 (K : Nat) : LibOk Try.prog (L73_0 K) := libOk_mk (ents := [(65, [e65 K])]) (bodies := []) (loops := []) order tiOk ⟨one_ent (e65_ok K), trivial⟩ trivial Try.func73 rfl lp73 ⟨no_lent, trivial⟩
abbrev i73_0 : Fs := [(.dat (.sl (.int Go.IntKind.i64)), false), (.dat (.int Go.IntKind.i64), false), (.dat (.int Go.IntKind.i64), true)]
noncomputable def implb73_0 (K : Nat) (rc : (List Int) → Int → Int → Option (Sum (Int × Unit) Bool)) (x1 : (List Int)) (x2 : Int) (x3 : Int) : Option (Sum (Int × Unit) Bool) :=
  (bif decide (x3 < (↑x1.length : Int)) then (if (0 : Int) ≤ x3 ∧ x3 < (↑x1.length : Int) then (ob (implf65 K (x1.getD x3.toNat ((0 : Int))) ((0 : Int)) x2) fun y1 => (bif !y1 then some (Sum.inr false) else (bif decide (x3 > (0 : Int)) then (if (0 : Int) ≤ IntKind.i64.wrap (x3 - (1 : Int)) ∧ IntKind.i64.wrap (x3 - (1 : Int)) < (↑x1.length : Int) then (if (0 : Int) ≤ x3 ∧ x3 < (↑x1.length : Int) then (bif decide (x1.getD (IntKind.i64.wrap (x3 - (1 : Int))).toNat ((0 : Int)) ≥ x1.getD x3.toNat ((0 : Int))) then some (Sum.inr false) else (rc x1 x2 (IntKind.i64.wrap (x3 + (1 : Int))))) else none) else none) else (rc x1 x2 (IntKind.i64.wrap (x3 + (1 : Int))))))) else none) else some (Sum.inl (x3, ())))
noncomputable def impll73_0 (K : Nat) : Nat → (List Int) → Int → Int → Option (Sum (Int × Unit) Bool)
  | 0, _, _, _ => none
  | k + 1, x1, x2, x3 => implb73_0 K (impll73_0 K k) x1 x2 x3
noncomputable def n73_0 (K : Nat) : Lent := ⟨[0, 1, 5], i73_0, [6, 7, 8, 9, 12, 13, 14, 15, 16, 17, 18, 19, 20, 21, 22, 23, 24, 25, 26, 27, 28, 29, 30, 31, 32, 33, 34, 4, 10, 11], [0], true, res73, fun x => impll73_0 K K x.1 x.2.1 x.2.2.1, []⟩
theorem q73_0 (K : Nat) (rc : (List Int) → Int → Int → Option (Sum (Int × Unit) Bool)) (x1 : (List Int)) (x2 : Int) (x3 : Int) : evLoop (L73_0 K) 3 73 Try.f73.results.toList (loopOf 0 (codeOf Try.f73)) 0 [0, 1, 5] [] i73_0 [0] true res73 (fun x => rc x.1 x.2.1 x.2.2.1) (x1, x2, x3, ()) = implb73_0 K rc x1 x2 x3 := by kernel_rfl
theorem lp73_0 : loopsIn (loopOf 0 (codeOf Try.f73)) 0 = [] := by kernel_rfl
theorem n73_0_ok (K : Nat) : LentOk Try.prog Try.f73 (loopOf 0 (codeOf Try.f73)) (n73_0 K) := lentOk_k (slots := [0, 1, 5]) (ali := []) (ins := i73_0) (writes := [6, 7, 8, 9, 12, 13, 14, 15, 16, 17, 18, 19, 20, 21, 22, 23, 24, 25, 26, 27, 28, 29, 30, 31, 32, 33, 34, 4, 10, 11]) (exits := [0]) (rets := true) (rs := res73) (lib73_0 K) lp73_0 trivial (by kernel_rfl) (by kernel_rfl) (by kernel_rfl) (by kernel_rfl) (by kernel_rfl) (fun k x => impll73_0 K k x.1 x.2.1 x.2.2.1) (fun _ => rfl) (fun k x => q73_0 K (impll73_0 K k) x.1 x.2.1 x.2.2.1) K
noncomputable def L73_1 (K : Nat) : Lib := mkLib ti [(65, [e65 K])] [] 73 [(0, [n73_0 K])]
theorem lib73_1 (K : Nat) : LibOk Try.prog (L73_1 K) := libOk_mk (ents := [(65, [e65 K])]) (bodies := []) (loops := [(0, [n73_0 K])]) order tiOk ⟨one_ent (e65_ok K), trivial⟩ trivial Try.func73 rfl lp73 ⟨one_lent (n73_0_ok K), trivial⟩
noncomputable def implf73 (K : Nat) (x1 : (List Int)) (x2 : Int) : Option (Bool) :=
  (ob (impll73_0 K K x1 x2 ((0 : Int))) fun y1 => (match y1 with | .inl y2 => some (true) | .inr y2 => some (y2)))
theorem q73 (K : Nat) (x1 : (List Int)) (x2 : Int) : evFnK (α := Bool) (L73_1 K) 3 73 Try.f73.results.toList (codeOf Try.f73) ins73 res73 (fun p => p.1) (x1, x2, ()) = implf73 K x1 x2 := by kernel_rfl
noncomputable def e73 (K : Nat) : Ent := ⟨ins73, res73, Bool, fun x => implf73 K x.1 x.2.1, fun _ => (fun y => (y, (()))), false⟩
theorem e73_ok (K : Nat) : EntOk Try.prog 73 (e73 K) := entOk_k (ins := ins73) (rs := res73) (α := Bool) (lib73_1 K) (d := 3) Try.func73 rfl (by kernel_rfl) (by kernel_rfl) (by kernel_rfl) (fun x => implf73 K x.1 x.2.1) (fun p => p.1) (fun y => (y, (()))) (fun _ => rfl) (fun x => q73 K x.1 x.2.1)

/-! diaphone/diaphoneref04.alone -/
abbrev ins74 : Fs := [(.dat (.sl (.pr (.int .i64) (.pr (.int .i64) (.int .i64)))), false), (.dat (.sl (.int .i64)), false)]
abbrev res74 : Sh := .dat (.bool)
theorem lp74 : loopsIn (codeOf Try.f74) 0 = [(0, loopOf 0 (codeOf Try.f74)), (2, loopOf 2 (codeOf Try.f74))] := by kernel_rfl
noncomputable def L74_0 (K : Nat) : Lib := mkLib ti [(66, [e66 K])] [] 74 []
theorem lib74_0 (K : Nat) : LibOk Try.prog (L74_0 K) := libOk_mk (ents := [(66, [e66 K])]) (bodies := []) (loops := []) order tiOk ⟨one_ent (e66_ok K), trivial⟩ trivial Try.func74 rfl lp74 ⟨no_lent, no_lent, trivial⟩
abbrev i74_0 : Fs := [(.dat (.sl (.pr (.int Go.IntKind.i64) (.pr (.int Go.IntKind.i64) (.int Go.IntKind.i64)))), false), (.dat (.sl (.int Go.IntKind.i64)), false), (.dat (.int Go.IntKind.i64), true)]
abbrev i74_2 : Fs := [(.dat (.sl (.pr (.int Go.IntKind.i64) (.pr (.int Go.IntKind.i64) (.int Go.IntKind.i64)))), false), (.dat (.sl (.int Go.IntKind.i64)), false), (.dat (.int Go.IntKind.i64), false), (.dat (.int Go.IntKind.i64), true)]
noncomputable def implb74_2 (K : Nat) (rc : (List (Int × (Int × Int))) → (List Int) → Int → Int → Option (Sum (Int × Unit) Bool)) (x1 : (List (Int × (Int × Int)))) (x2 : (List Int)) (x3 : Int) (x4 : Int) : Option (Sum (Int × Unit) Bool) :=
  (bif decide (x4 < x3) then (if (0 : Int) ≤ x3 ∧ x3 < (↑x2.length : Int) then (if (0 : Int) ≤ x2.getD x3.toNat ((0 : Int)) ∧ x2.getD x3.toNat ((0 : Int)) < (↑x1.length : Int) then (if (0 : Int) ≤ x4 ∧ x4 < (↑x2.length : Int) then (if (0 : Int) ≤ x2.getD x4.toNat ((0 : Int)) ∧ x2.getD x4.toNat ((0 : Int)) < (↑x1.length : Int) then (ob (implf66 K (x1.getD (x2.getD x3.toNat ((0 : Int))).toNat ((0 : Int), (0 : Int), (0 : Int))) (x1.getD (x2.getD x4.toNat ((0 : Int))).toNat ((0 : Int), (0 : Int), (0 : Int)))) fun y1 => (bif y1 then some (Sum.inr false) else (rc x1 x2 x3 (IntKind.i64.wrap (x4 + (1 : Int)))))) else none) else none) else none) else none) else some (Sum.inl (x4, ())))
noncomputable def impll74_2 (K : Nat) : Nat → (List (Int × (Int × Int))) → (List Int) → Int → Int → Option (Sum (Int × Unit) Bool)
  | 0, _, _, _, _ => none
  | k + 1, x1, x2, x3, x4 => implb74_2 K (impll74_2 K k) x1 x2 x3 x4
noncomputable def n74_2 (K : Nat) : Lent := ⟨[0, 1, 5, 6], i74_2, [13, 14, 15, 18, 19, 20, 21, 22, 23, 24, 25, 26, 27, 28, 29, 30, 31, 32, 4, 16, 17], [2], true, res74, fun x => impll74_2 K K x.1 x.2.1 x.2.2.1 x.2.2.2.1, []⟩
theorem q74_2 (K : Nat) (rc : (List (Int × (Int × Int))) → (List Int) → Int → Int → Option (Sum (Int × Unit) Bool)) (x1 : (List (Int × (Int × Int)))) (x2 : (List Int)) (x3 : Int) (x4 : Int) : evLoop (L74_0 K) 3 74 Try.f74.results.toList (loopOf 2 (codeOf Try.f74)) 2 [0, 1, 5, 6] [] i74_2 [2] true res74 (fun x => rc x.1 x.2.1 x.2.2.1 x.2.2.2.1) (x1, x2, x3, x4, ()) = implb74_2 K rc x1 x2 x3 x4 := by kernel_rfl
theorem lp74_2 : loopsIn (loopOf 2 (codeOf Try.f74)) 2 = [] := by kernel_rfl
theorem n74_2_ok (K : Nat) : LentOk Try.prog Try.f74 (loopOf 2 (codeOf Try.f74)) (n74_2 K) := lentOk_k (slots := [0, 1, 5, 6]) (ali := []) (ins := i74_2) (writes := [13, 14, 15, 18, 19, 20, 21, 22, 23, 24, 25, 26, 27, 28, 29, 30, 31, 32, 4, 16, 17]) (exits := [2]) (rets := true) (rs := res74) (lib74_0 K) lp74_2 trivial (by kernel_rfl) (by kernel_rfl) (by kernel_rfl) (by kernel_rfl) (by kernel_rfl) (fun k x => impll74_2 K k x.1 x.2.1 x.2.2.1 x.2.2.2.1) (fun _ => rfl) (fun k x => q74_2 K (impll74_2 K k) x.1 x.2.1 x.2.2.1 x.2.2.2.1) K
noncomputable def L74_1 (K : Nat) : Lib := mkLib ti [(66, [e66 K])] [] 74 [(2, [n74_2 K])]
theorem lib74_1 (K : Nat) : LibOk Try.prog (L74_1 K) := libOk_mk (ents := [(66, [e66 K])]) (bodies := []) (loops := [(2, [n74_2 K])]) order tiOk ⟨one_ent (e66_ok K), trivial⟩ trivial Try.func74 rfl lp74 ⟨no_lent, one_lent (n74_2_ok K), trivial⟩
noncomputable def implb74_0 (K : Nat) (rc : (List (Int × (Int × Int))) → (List Int) → Int → Option (Sum (Int × Unit) Bool)) (x1 : (List (Int × (Int × Int)))) (x2 : (List Int)) (x3 : Int) : Option (Sum (Int × Unit) Bool) :=
  (bif decide (x3 < (↑x2.length : Int)) then (ob (impll74_2 K K x1 x2 x3 ((0 : Int))) fun y1 => (match y1 with | .inl y2 => (rc x1 x2 (IntKind.i64.wrap (x3 + (1 : Int)))) | .inr y2 => some (Sum.inr y2))) else some (Sum.inl (x3, ())))
noncomputable def impll74_0 (K : Nat) : Nat → (List (Int × (Int × Int))) → (List Int) → Int → Option (Sum (Int × Unit) Bool)
  | 0, _, _, _ => none
  | k + 1, x1, x2, x3 => implb74_0 K (impll74_0 K k) x1 x2 x3
noncomputable def n74_0 (K : Nat) : Lent := ⟨[0, 1, 5], i74_0, [7, 8, 9, 10, 6, 13, 14, 15, 18, 19, 20, 21, 22, 23, 24, 25, 26, 27, 28, 29, 30, 31, 32, 4, 16, 17, 11, 12], [0], true, res74, fun x => impll74_0 K K x.1 x.2.1 x.2.2.1, []⟩
theorem q74_0 (K : Nat) (rc : (List (Int × (Int × Int))) → (List Int) → Int → Option (Sum (Int × Unit) Bool)) (x1 : (List (Int × (Int × Int)))) (x2 : (List Int)) (x3 : Int) : evLoop (L74_1 K) 3 74 Try.f74.results.toList (loopOf 0 (codeOf Try.f74)) 0 [0, 1, 5] [] i74_0 [0] true res74 (fun x => rc x.1 x.2.1 x.2.2.1) (x1, x2, x3, ()) = implb74_0 K rc x1 x2 x3 := by kernel_rfl
theorem lp74_0 : loopsIn (loopOf 0 (codeOf Try.f74)) 0 = [(2, loopOf 2 (codeOf Try.f74))] := by kernel_rfl
theorem n74_0_ok (K : Nat) : LentOk Try.prog Try.f74 (loopOf 0 (codeOf Try.f74)) (n74_0 K) := lentOk_k (slots := [0, 1, 5]) (ali := []) (ins := i74_0) (writes := [7, 8, 9, 10, 6, 13, 14, 15, 18, 19, 20, 21, 22, 23, 24, 25, 26, 27, 28, 29, 30, 31, 32, 4, 16, 17, 11, 12]) (exits := [0]) (rets := true) (rs := res74) (lib74_1 K) lp74_0 ⟨one_lent (n74_2_ok K), trivial⟩ (by kernel_rfl) (by kernel_rfl) (by kernel_rfl) (by kernel_rfl) (by kernel_rfl) (fun k x => impll74_0 K k x.1 x.2.1 x.2.2.1) (fun _ => rfl) (fun k x => q74_0 K (impll74_0 K k) x.1 x.2.1 x.2.2.1) K
noncomputable def L74_2 (K : Nat) : Lib := mkLib ti [(66, [e66 K])] [] 74 [(2, [n74_2 K]), (0, [n74_0 K])]
theorem lib74_2 (K : Nat) : LibOk Try.prog (L74_2 K) := libOk_mk (ents := [(66, [e66 K])]) (bodies := []) (loops := [(2, [n74_2 K]), (0, [n74_0 K])]) order tiOk ⟨one_ent (e66_ok K), trivial⟩ trivial Try.func74 rfl lp74 ⟨one_lent (n74_0_ok K), one_lent (n74_2_ok K), trivial⟩
noncomputable def implf74 (K : Nat) (x1 : (List (Int × (Int × Int)))) (x2 : (List Int)) : Option (Bool) :=
  (ob (impll74_0 K K x1 x2 ((0 : Int))) fun y1 => (match y1 with | .inl y2 => some (true) | .inr y2 => some (y2)))
theorem q74 (K : Nat) (x1 : (List (Int × (Int × Int)))) (x2 : (List Int)) : evFnK (α := Bool) (L74_2 K) 3 74 Try.f74.results.toList (codeOf Try.f74) ins74 res74 (fun p => p.1) (x1, x2, ()) = implf74 K x1 x2 := by kernel_rfl
noncomputable def e74 (K : Nat) : Ent := ⟨ins74, res74, Bool, fun x => implf74 K x.1 x.2.1, fun _ => (fun y => (y, (()))), false⟩
theorem e74_ok (K : Nat) : EntOk Try.prog 74 (e74 K) := entOk_k (ins := ins74) (rs := res74) (α := Bool) (lib74_2 K) (d := 3) Try.func74 rfl (by kernel_rfl) (by kernel_rfl) (by kernel_rfl) (fun x => implf74 K x.1 x.2.1) (fun p => p.1) (fun y => (y, (()))) (fun _ => rfl) (fun x => q74 K x.1 x.2.1)

/-! diaphone/diaphoneref04.CheckAlone -/
abbrev ins26 : Fs := [(.dat (.sl (.pr (.int .i64) (.pr (.int .i64) (.int .i64)))), false), (.dat (.sl (.int .i64)), false)]
abbrev res26 : Sh := .cons (.dat (.int .i64)) (.cons (.dat (.int .i64)) (.un))
theorem lp26 : loopsIn (codeOf Try.f26) 0 = [] := by kernel_rfl
noncomputable def L26_0 (K : Nat) : Lib := mkLib ti [(25, [e25 K]), (73, [e73 K]), (74, [e74 K])] [] 26 []
theorem lib26_0 (K : Nat) : LibOk Try.prog (L26_0 K) := libOk_mk (ents := [(25, [e25 K]), (73, [e73 K]), (74, [e74 K])]) (bodies := []) (loops := []) order tiOk ⟨one_ent (e25_ok K), one_ent (e73_ok K), one_ent (e74_ok K), trivial⟩ trivial Try.func26 rfl lp26 trivial
noncomputable def implf26 (K : Nat) (x1 : (List (Int × (Int × Int)))) (x2 : (List Int)) : Option (Int × Int) :=
  (ob (implf25 K x1) fun y1 => (bif y1 != (0 : Int) then some (((0 : Int), y1)) else (ob (implf73 K x2 (IntKind.i64.wrap ((↑x1.length : Int) - (1 : Int)))) fun y2 => (bif !y2 then some (((0 : Int), (1 : Int))) else (ob (implf74 K x1 x2) fun y3 => (bif !y3 then some (((0 : Int), (6 : Int))) else some (((↑x2.length : Int), (0 : Int)))))))))
theorem q26 (K : Nat) (x1 : (List (Int × (Int × Int)))) (x2 : (List Int)) : evFnK (α := Int × Int) (L26_0 K) 3 26 Try.f26.results.toList (codeOf Try.f26) ins26 res26 (fun p => (p.1.1, p.1.2.1)) (x1, x2, ()) = implf26 K x1 x2 := by kernel_rfl
noncomputable def e26 (K : Nat) : Ent := ⟨ins26, res26, Int × Int, fun x => implf26 K x.1 x.2.1, fun _ => (fun y => ((y.1, y.2, ()), (()))), false⟩
theorem e26_ok (K : Nat) : EntOk Try.prog 26 (e26 K) := entOk_k (ins := ins26) (rs := res26) (α := Int × Int) (lib26_0 K) (d := 3) Try.func26 rfl (by kernel_rfl) (by kernel_rfl) (by kernel_rfl) (fun x => implf26 K x.1 x.2.1) (fun p => (p.1.1, p.1.2.1)) (fun y => ((y.1, y.2, ()), (()))) (fun _ => rfl) (fun x => q26 K x.1 x.2.1)

/-! diaphone/diaphoneref04.Pay -/
abbrev ins28 : Fs := [(.dat (.sl (.pr (.int .i64) (.pr (.int .i64) (.int .i64)))), false), (.dat (.sl (.int .i64)), false)]
abbrev res28 : Sh := .dat (.int .i64)
theorem lp28 : loopsIn (codeOf Try.f28) 0 = [(0, loopOf 0 (codeOf Try.f28))] := by kernel_rfl
noncomputable def L28_0 (K : Nat) : Lib := mkLib ti [] [] 28 []
theorem lib28_0 (K : Nat) : LibOk Try.prog (L28_0 K) := libOk_mk (ents := []) (bodies := []) (loops := []) order tiOk trivial trivial Try.func28 rfl lp28 ⟨no_lent, trivial⟩
abbrev i28_0 : Fs := [(.dat (.sl (.pr (.int Go.IntKind.i64) (.pr (.int Go.IntKind.i64) (.int Go.IntKind.i64)))), false), (.dat (.sl (.int Go.IntKind.i64)), false), (.dat (.int Go.IntKind.i64), true), (.dat (.int Go.IntKind.i64), true)]
noncomputable def implb28_0 (K : Nat) (rc : (List (Int × (Int × Int))) → (List Int) → Int → Int → Option (Int × Int × Unit)) (x1 : (List (Int × (Int × Int)))) (x2 : (List Int)) (x3 : Int) (x4 : Int) : Option (Int × Int × Unit) :=
  (bif decide (x4 < (↑x2.length : Int)) then (if (0 : Int) ≤ x4 ∧ x4 < (↑x2.length : Int) then (if (0 : Int) ≤ x2.getD x4.toNat ((0 : Int)) ∧ x2.getD x4.toNat ((0 : Int)) < (↑x1.length : Int) then (rc x1 x2 (IntKind.i64.wrap (x3 + (x1.getD (x2.getD x4.toNat ((0 : Int))).toNat ((0 : Int), (0 : Int), (0 : Int))).2.2)) (IntKind.i64.wrap (x4 + (1 : Int)))) else none) else none) else some ((x3, x4, ())))
noncomputable def impll28_0 (K : Nat) : Nat → (List (Int × (Int × Int))) → (List Int) → Int → Int → Option (Int × Int × Unit)
  | 0, _, _, _, _ => none
  | k + 1, x1, x2, x3, x4 => implb28_0 K (impll28_0 K k) x1 x2 x3 x4
noncomputable def n28_0 (K : Nat) : Lent := ⟨[0, 1, 5, 6], i28_0, [7, 8, 9, 10, 13, 14, 15, 16, 17, 18, 19, 20, 21, 22, 11, 12], [0], false, res28, fun x => impll28_0 K K x.1 x.2.1 x.2.2.1 x.2.2.2.1, []⟩
theorem q28_0 (K : Nat) (rc : (List (Int × (Int × Int))) → (List Int) → Int → Int → Option (Int × Int × Unit)) (x1 : (List (Int × (Int × Int)))) (x2 : (List Int)) (x3 : Int) (x4 : Int) : evLoop (L28_0 K) 3 28 Try.f28.results.toList (loopOf 0 (codeOf Try.f28)) 0 [0, 1, 5, 6] [] i28_0 [0] false res28 (fun x => rc x.1 x.2.1 x.2.2.1 x.2.2.2.1) (x1, x2, x3, x4, ()) = implb28_0 K rc x1 x2 x3 x4 := by kernel_rfl
theorem lp28_0 : loopsIn (loopOf 0 (codeOf Try.f28)) 0 = [] := by kernel_rfl
theorem n28_0_ok (K : Nat) : LentOk Try.prog Try.f28 (loopOf 0 (codeOf Try.f28)) (n28_0 K) := lentOk_k (slots := [0, 1, 5, 6]) (ali := []) (ins := i28_0) (writes := [7, 8, 9, 10, 13, 14, 15, 16, 17, 18, 19, 20, 21, 22, 11, 12]) (exits := [0]) (rets := false) (rs := res28) (lib28_0 K) lp28_0 trivial (by kernel_rfl) (by kernel_rfl) (by kernel_rfl) (by kernel_rfl) (by kernel_rfl) (fun k x => impll28_0 K k x.1 x.2.1 x.2.2.1 x.2.2.2.1) (fun _ => rfl) (fun k x => q28_0 K (impll28_0 K k) x.1 x.2.1 x.2.2.1 x.2.2.2.1) K
noncomputable def L28_1 (K : Nat) : Lib := mkLib ti [] [] 28 [(0, [n28_0 K])]
theorem lib28_1 (K : Nat) : LibOk Try.prog (L28_1 K) := libOk_mk (ents := []) (bodies := []) (loops := [(0, [n28_0 K])]) order tiOk trivial trivial Try.func28 rfl lp28 ⟨one_lent (n28_0_ok K), trivial⟩
noncomputable def implf28 (K : Nat) (x1 : (List (Int × (Int × Int)))) (x2 : (List Int)) : Option (Int) :=
  (ob (impll28_0 K K x1 x2 ((0 : Int)) ((0 : Int))) fun y1 => some (y1.1))
theorem q28 (K : Nat) (x1 : (List (Int × (Int × Int)))) (x2 : (List Int)) : evFnK (α := Int) (L28_1 K) 3 28 Try.f28.results.toList (codeOf Try.f28) ins28 res28 (fun p => p.1) (x1, x2, ()) = implf28 K x1 x2 := by kernel_rfl
noncomputable def e28 (K : Nat) : Ent := ⟨ins28, res28, Int, fun x => implf28 K x.1 x.2.1, fun _ => (fun y => (y, (()))), false⟩
theorem e28_ok (K : Nat) : EntOk Try.prog 28 (e28 K) := entOk_k (ins := ins28) (rs := res28) (α := Int) (lib28_1 K) (d := 3) Try.func28 rfl (by kernel_rfl) (by kernel_rfl) (by kernel_rfl) (fun x => implf28 K x.1 x.2.1) (fun p => p.1) (fun y => (y, (()))) (fun _ => rfl) (fun x => q28 K x.1 x.2.1)

/-! diaphone/diaphoneref04.Most -/
abbrev ins27 : Fs := [(.dat (.sl (.pr (.int .i64) (.pr (.int .i64) (.int .i64)))), false)]
abbrev res27 : Sh := .cons (.dat (.int .i64)) (.cons (.dat (.int .i64)) (.un))
theorem lp27 : loopsIn (codeOf Try.f27) 0 = [(0, loopOf 0 (codeOf Try.f27)), (2, loopOf 2 (codeOf Try.f27))] := by kernel_rfl
noncomputable def L27_0 (K : Nat) : Lib := mkLib ti [(28, [e28 K]), (74, [e74 K])] [] 27 []
theorem lib27_0 (K : Nat) : LibOk Try.prog (L27_0 K) := libOk_mk (ents := [(28, [e28 K]), (74, [e74 K])]) (bodies := []) (loops := []) order tiOk ⟨one_ent (e28_ok K), one_ent (e74_ok K), trivial⟩ trivial Try.func27 rfl lp27 ⟨no_lent, no_lent, trivial⟩
abbrev i27_0 : Fs := [(.dat (.sl (.pr (.int Go.IntKind.i64) (.pr (.int Go.IntKind.i64) (.int Go.IntKind.i64)))), false), (.own (.sl (.int Go.IntKind.i64)), true), (.dat (.int Go.IntKind.i64), true), (.dat (.int Go.IntKind.i64), true), (.dat (.int Go.IntKind.i64), true)]
abbrev i27_2 : Fs := [(.dat (.sl (.pr (.int Go.IntKind.i64) (.pr (.int Go.IntKind.i64) (.int Go.IntKind.i64)))), false), (.own (.sl (.int Go.IntKind.i64)), true), (.dat (.int Go.IntKind.i64), true), (.dat (.int Go.IntKind.i64), true), (.dat (.int Go.IntKind.i64), false), (.dat (.int Go.IntKind.i64), true)]
noncomputable def implb27_2 (K : Nat) (rc : (List (Int × (Int × Int))) → (List (List Int)) → Int → Int → Int → Int → Option ((List (List Int)) × Int × Int × Int × Unit)) (x1 : (List (Int × (Int × Int)))) (x2 : (List (List Int))) (x3 : Int) (x4 : Int) (x5 : Int) (x6 : Int) : Option ((List (List Int)) × Int × Int × Int × Unit) :=
  (bif decide (x6 ≥ (0 : Int)) then (if (0 : Int) ≤ x6 ∧ x6 < (↑x2.length : Int) then (if ((List.replicate 0 ((0 : Int))).length + (x2.getD x6.toNat []).length) * 8 ≤ 140737488355328 then (if ((List.replicate 0 ((0 : Int)) ++ x2.getD x6.toNat []).length + ((List.replicate 1 ((0 : Int))).set 0 x5).length) * 8 ≤ 140737488355328 then (ob (implf74 K x1 (List.replicate 0 ((0 : Int)) ++ x2.getD x6.toNat [] ++ (List.replicate 1 ((0 : Int))).set 0 x5)) fun y1 => (bif y1 then (if (x2.length + ((List.replicate 1 []).set 0 (List.replicate 0 ((0 : Int)) ++ x2.getD x6.toNat [] ++ (List.replicate 1 ((0 : Int))).set 0 x5)).length) * 24 ≤ 140737488355328 then (ob (implf28 K x1 (List.replicate 0 ((0 : Int)) ++ x2.getD x6.toNat [] ++ (List.replicate 1 ((0 : Int))).set 0 x5)) fun y2 => (rc x1 (x2 ++ (List.replicate 1 []).set 0 (List.replicate 0 ((0 : Int)) ++ x2.getD x6.toNat [] ++ (List.replicate 1 ((0 : Int))).set 0 x5)) (max x3 (↑(List.replicate 0 ((0 : Int)) ++ x2.getD x6.toNat [] ++ (List.replicate 1 ((0 : Int))).set 0 x5).length : Int)) (max x4 y2) x5 (IntKind.i64.wrap (x6 - (1 : Int))))) else none) else (rc x1 x2 x3 x4 x5 (IntKind.i64.wrap (x6 - (1 : Int)))))) else none) else none) else none) else some ((x2, x3, x4, x6, ())))
noncomputable def impll27_2 (K : Nat) : Nat → (List (Int × (Int × Int))) → (List (List Int)) → Int → Int → Int → Int → Option ((List (List Int)) × Int × Int × Int × Unit)
  | 0, _, _, _, _, _, _ => none
  | k + 1, x1, x2, x3, x4, x5, x6 => implb27_2 K (impll27_2 K k) x1 x2 x3 x4 x5 x6
noncomputable def n27_2 (K : Nat) : Lent := ⟨[0, 4, 5, 6, 7, 8], i27_2, [20, 21, 24, 25, 26, 27, 28, 29, 30, 31, 32, 9, 33, 34, 35, 36, 37, 38, 39, 40, 41, 42, 43, 44, 45, 46, 47, 48, 22, 23], [2], false, res27, fun x => impll27_2 K K x.1 x.2.1 x.2.2.1 x.2.2.2.1 x.2.2.2.2.1 x.2.2.2.2.2.1, []⟩
theorem q27_2 (K : Nat) (rc : (List (Int × (Int × Int))) → (List (List Int)) → Int → Int → Int → Int → Option ((List (List Int)) × Int × Int × Int × Unit)) (x1 : (List (Int × (Int × Int)))) (x2 : (List (List Int))) (x3 : Int) (x4 : Int) (x5 : Int) (x6 : Int) : evLoop (L27_0 K) 3 27 Try.f27.results.toList (loopOf 2 (codeOf Try.f27)) 2 [0, 4, 5, 6, 7, 8] [] i27_2 [2] false res27 (fun x => rc x.1 x.2.1 x.2.2.1 x.2.2.2.1 x.2.2.2.2.1 x.2.2.2.2.2.1) (x1, x2, x3, x4, x5, x6, ()) = implb27_2 K rc x1 x2 x3 x4 x5 x6 := by kernel_rfl
theorem lp27_2 : loopsIn (loopOf 2 (codeOf Try.f27)) 2 = [] := by kernel_rfl
theorem n27_2_ok (K : Nat) : LentOk Try.prog Try.f27 (loopOf 2 (codeOf Try.f27)) (n27_2 K) := lentOk_k (slots := [0, 4, 5, 6, 7, 8]) (ali := []) (ins := i27_2) (writes := [20, 21, 24, 25, 26, 27, 28, 29, 30, 31, 32, 9, 33, 34, 35, 36, 37, 38, 39, 40, 41, 42, 43, 44, 45, 46, 47, 48, 22, 23]) (exits := [2]) (rets := false) (rs := res27) (lib27_0 K) lp27_2 trivial (by kernel_rfl) (by kernel_rfl) (by kernel_rfl) (by kernel_rfl) (by kernel_rfl) (fun k x => impll27_2 K k x.1 x.2.1 x.2.2.1 x.2.2.2.1 x.2.2.2.2.1 x.2.2.2.2.2.1) (fun _ => rfl) (fun k x => q27_2 K (impll27_2 K k) x.1 x.2.1 x.2.2.1 x.2.2.2.1 x.2.2.2.2.1 x.2.2.2.2.2.1) K
noncomputable def L27_1 (K : Nat) : Lib := mkLib ti [(28, [e28 K]), (74, [e74 K])] [] 27 [(2, [n27_2 K])]
theorem lib27_1 (K : Nat) : LibOk Try.prog (L27_1 K) := libOk_mk (ents := [(28, [e28 K]), (74, [e74 K])]) (bodies := []) (loops := [(2, [n27_2 K])]) order tiOk ⟨one_ent (e28_ok K), one_ent (e74_ok K), trivial⟩ trivial Try.func27 rfl lp27 ⟨no_lent, one_lent (n27_2_ok K), trivial⟩
noncomputable def implb27_0 (K : Nat) (rc : (List (Int × (Int × Int))) → (List (List Int)) → Int → Int → Int → Option ((List (List Int)) × Int × Int × Int × Unit)) (x1 : (List (Int × (Int × Int)))) (x2 : (List (List Int))) (x3 : Int) (x4 : Int) (x5 : Int) : Option ((List (List Int)) × Int × Int × Int × Unit) :=
  (bif decide (x5 < (↑x1.length : Int)) then (ob (impll27_2 K K x1 x2 x3 x4 x5 (IntKind.i64.wrap ((↑x2.length : Int) - (1 : Int)))) fun y1 => (rc x1 y1.1 y1.2.1 y1.2.2.1 (IntKind.i64.wrap (x5 + (1 : Int))))) else some ((x2, x3, x4, x5, ())))
noncomputable def impll27_0 (K : Nat) : Nat → (List (Int × (Int × Int))) → (List (List Int)) → Int → Int → Int → Option ((List (List Int)) × Int × Int × Int × Unit)
  | 0, _, _, _, _, _ => none
  | k + 1, x1, x2, x3, x4, x5 => implb27_0 K (impll27_0 K k) x1 x2 x3 x4 x5
noncomputable def n27_0 (K : Nat) : Lent := ⟨[0, 4, 5, 6, 7], i27_0, [11, 12, 13, 14, 17, 18, 19, 8, 20, 21, 24, 25, 26, 27, 28, 29, 30, 31, 32, 9, 33, 34, 35, 36, 37, 38, 39, 40, 41, 42, 43, 44, 45, 46, 47, 48, 22, 23, 15, 16], [0], false, res27, fun x => impll27_0 K K x.1 x.2.1 x.2.2.1 x.2.2.2.1 x.2.2.2.2.1, []⟩
theorem q27_0 (K : Nat) (rc : (List (Int × (Int × Int))) → (List (List Int)) → Int → Int → Int → Option ((List (List Int)) × Int × Int × Int × Unit)) (x1 : (List (Int × (Int × Int)))) (x2 : (List (List Int))) (x3 : Int) (x4 : Int) (x5 : Int) : evLoop (L27_1 K) 3 27 Try.f27.results.toList (loopOf 0 (codeOf Try.f27)) 0 [0, 4, 5, 6, 7] [] i27_0 [0] false res27 (fun x => rc x.1 x.2.1 x.2.2.1 x.2.2.2.1 x.2.2.2.2.1) (x1, x2, x3, x4, x5, ()) = implb27_0 K rc x1 x2 x3 x4 x5 := by kernel_rfl
theorem lp27_0 : loopsIn (loopOf 0 (codeOf Try.f27)) 0 = [(2, loopOf 2 (codeOf Try.f27))] := by kernel_rfl
theorem n27_0_ok (K : Nat) : LentOk Try.prog Try.f27 (loopOf 0 (codeOf Try.f27)) (n27_0 K) := lentOk_k (slots := [0, 4, 5, 6, 7]) (ali := []) (ins := i27_0) (writes := [11, 12, 13, 14, 17, 18, 19, 8, 20, 21, 24, 25, 26, 27, 28, 29, 30, 31, 32, 9, 33, 34, 35, 36, 37, 38, 39, 40, 41, 42, 43, 44, 45, 46, 47, 48, 22, 23, 15, 16]) (exits := [0]) (rets := false) (rs := res27) (lib27_1 K) lp27_0 ⟨one_lent (n27_2_ok K), trivial⟩ (by kernel_rfl) (by kernel_rfl) (by kernel_rfl) (by kernel_rfl) (by kernel_rfl) (fun k x => impll27_0 K k x.1 x.2.1 x.2.2.1 x.2.2.2.1 x.2.2.2.2.1) (fun _ => rfl) (fun k x => q27_0 K (impll27_0 K k) x.1 x.2.1 x.2.2.1 x.2.2.2.1 x.2.2.2.2.1) K
noncomputable def L27_2 (K : Nat) : Lib := mkLib ti [(28, [e28 K]), (74, [e74 K])] [] 27 [(2, [n27_2 K]), (0, [n27_0 K])]
theorem lib27_2 (K : Nat) : LibOk Try.prog (L27_2 K) := libOk_mk (ents := [(28, [e28 K]), (74, [e74 K])]) (bodies := []) (loops := [(2, [n27_2 K]), (0, [n27_0 K])]) order tiOk ⟨one_ent (e28_ok K), one_ent (e74_ok K), trivial⟩ trivial Try.func27 rfl lp27 ⟨one_lent (n27_0_ok K), one_lent (n27_2_ok K), trivial⟩
noncomputable def implf27 (K : Nat) (x1 : (List (Int × (Int × Int)))) : Option (Int × Int) :=
  (ob (impll27_0 K K x1 ((List.replicate 1 []).set 0 []) ((0 : Int)) ((0 : Int)) ((0 : Int))) fun y1 => some ((y1.2.1, y1.2.2.1)))
theorem q27 (K : Nat) (x1 : (List (Int × (Int × Int)))) : evFnK (α := Int × Int) (L27_2 K) 3 27 Try.f27.results.toList (codeOf Try.f27) ins27 res27 (fun p => (p.1.1, p.1.2.1)) (x1, ()) = implf27 K x1 := by kernel_rfl
noncomputable def e27 (K : Nat) : Ent := ⟨ins27, res27, Int × Int, fun x => implf27 K x.1, fun _ => (fun y => ((y.1, y.2, ()), (()))), false⟩
theorem e27_ok (K : Nat) : EntOk Try.prog 27 (e27 K) := entOk_k (ins := ins27) (rs := res27) (α := Int × Int) (lib27_2 K) (d := 3) Try.func27 rfl (by kernel_rfl) (by kernel_rfl) (by kernel_rfl) (fun x => implf27 K x.1) (fun p => (p.1.1, p.1.2.1)) (fun y => ((y.1, y.2, ()), (()))) (fun _ => rfl) (fun x => q27 K x.1)

/-! diaphone/diaphonelaw04.WatchEarns -/
abbrev ins4 : Fs := [(.dat (.sl (.pr (.int .i64) (.pr (.int .i64) (.int .i64)))), false)]
abbrev res4 : Sh := .dat (.bool)
theorem lp4 : loopsIn (codeOf Try.f4) 0 = [] := by kernel_rfl
noncomputable def L4_0 (K : Nat) : Lib := mkLib ti [(19, [e19 K]), (20, [e20 K]), (24, [e24 K]), (25, [e25 K]), (26, [e26 K]), (27, [e27 K]), (28, [e28 K])] [] 4 []
theorem lib4_0 (K : Nat) : LibOk Try.prog (L4_0 K) := libOk_mk (ents := [(19, [e19 K]), (20, [e20 K]), (24, [e24 K]), (25, [e25 K]), (26, [e26 K]), (27, [e27 K]), (28, [e28 K])]) (bodies := []) (loops := []) order tiOk ⟨one_ent (e19_ok K), one_ent (e20_ok K), one_ent (e24_ok K), one_ent (e25_ok K), one_ent (e26_ok K), one_ent (e27_ok K), one_ent (e28_ok K), trivial⟩ trivial Try.func4 rfl lp4 trivial
noncomputable def implf4 (K : Nat) (x1 : (List (Int × (Int × Int)))) : Option (Bool) :=
  (ob (implf19 K x1 []) fun y1 => (bif y1 then (ob (implf20 K) fun y2 => some (y2)) else (ob (implf24 K x1) fun y3 => (ob (implf25 K x1) fun y4 => (bif y3.2.2 != y4 then some (false) else (bif y3.2.2 != (0 : Int) then (bif (↑y3.1.length : Int) == (0 : Int) then (bif y3.2.1 == (0 : Int) then (ob (implf20 K) fun y5 => some (y5)) else some (false)) else some (false)) else (ob (implf26 K x1 y3.1) fun y6 => (ob (implf27 K x1) fun y7 => (bif y6.2 == (0 : Int) then (bif y3.2.1 == y7.2 then (ob (implf28 K x1 y3.1) fun y8 => (bif y8 == y3.2.1 then (ob (implf20 K) fun y9 => some (y9)) else some (false))) else some (false)) else some (false))))))))))
theorem q4 (K : Nat) (x1 : (List (Int × (Int × Int)))) : evFnK (α := Bool) (L4_0 K) 3 4 Try.f4.results.toList (codeOf Try.f4) ins4 res4 (fun p => p.1) (x1, ()) = implf4 K x1 := by kernel_rfl
noncomputable def e4 (K : Nat) : Ent := ⟨ins4, res4, Bool, fun x => implf4 K x.1, fun _ => (fun y => (y, (()))), false⟩
theorem e4_ok (K : Nat) : EntOk Try.prog 4 (e4 K) := entOk_k (ins := ins4) (rs := res4) (α := Bool) (lib4_0 K) (d := 3) Try.func4 rfl (by kernel_rfl) (by kernel_rfl) (by kernel_rfl) (fun x => implf4 K x.1) (fun p => p.1) (fun y => (y, (()))) (fun _ => rfl) (fun x => q4 K x.1)

/-! diaphone/watch.check -/
abbrev ins75 : Fs := [(.dat (.sl (.pr (.int .i64) (.pr (.int .i64) (.int .i64)))), false), (.dat (.sl (.int .i64)), false)]
abbrev res75 : Sh := .dat (.int .i64)
theorem lp75 : loopsIn (codeOf Try.f75) 0 = [(0, loopOf 0 (codeOf Try.f75))] := by kernel_rfl
noncomputable def L75_0 (K : Nat) : Lib := mkLib ti [(31, [e31 K]), (60, [e60 K])] [] 75 []
theorem lib75_0 (K : Nat) : LibOk Try.prog (L75_0 K) := libOk_mk (ents := [(31, [e31 K]), (60, [e60 K])]) (bodies := []) (loops := []) order tiOk ⟨one_ent (e31_ok K), one_ent (e60_ok K), trivial⟩ trivial Try.func75 rfl lp75 ⟨no_lent, trivial⟩
abbrev i75_0 : Fs := [(.dat (.sl (.pr (.int Go.IntKind.i64) (.pr (.int Go.IntKind.i64) (.int Go.IntKind.i64)))), false), (.dat (.sl (.int Go.IntKind.i64)), false), (.dat (.int Go.IntKind.i64), false), (.dat (.int Go.IntKind.i64), true)]
noncomputable def implb75_0 (K : Nat) (rc : (List (Int × (Int × Int))) → (List Int) → Int → Int → Option (Sum (Int × Unit) Int)) (x1 : (List (Int × (Int × Int)))) (x2 : (List Int)) (x3 : Int) (x4 : Int) : Option (Sum (Int × Unit) Int) :=
  (bif decide (x4 < x3) then (if (0 : Int) ≤ x4 ∧ x4 < (↑x2.length : Int) then (ob (implf60 K (x2.getD x4.toNat ((0 : Int))) ((0 : Int)) (IntKind.i64.wrap ((↑x1.length : Int) - (1 : Int)))) fun y1 => (bif !y1 then some (Sum.inr ((4 : Int))) else (rc x1 x2 x3 (IntKind.i64.wrap (x4 + (1 : Int)))))) else none) else some (Sum.inl (x4, ())))
noncomputable def impll75_0 (K : Nat) : Nat → (List (Int × (Int × Int))) → (List Int) → Int → Int → Option (Sum (Int × Unit) Int)
  | 0, _, _, _, _ => none
  | k + 1, x1, x2, x3, x4 => implb75_0 K (impll75_0 K k) x1 x2 x3 x4
noncomputable def n75_0 (K : Nat) : Lent := ⟨[0, 13, 14, 15], i75_0, [16, 17, 18, 7, 19, 20, 21, 22, 23, 24, 4, 25], [0], true, res75, fun x => impll75_0 K K x.1 x.2.1 x.2.2.1 x.2.2.2.1, []⟩
theorem q75_0 (K : Nat) (rc : (List (Int × (Int × Int))) → (List Int) → Int → Int → Option (Sum (Int × Unit) Int)) (x1 : (List (Int × (Int × Int)))) (x2 : (List Int)) (x3 : Int) (x4 : Int) : evLoop (L75_0 K) 3 75 Try.f75.results.toList (loopOf 0 (codeOf Try.f75)) 0 [0, 13, 14, 15] [] i75_0 [0] true res75 (fun x => rc x.1 x.2.1 x.2.2.1 x.2.2.2.1) (x1, x2, x3, x4, ()) = implb75_0 K rc x1 x2 x3 x4 := by kernel_rfl
theorem lp75_0 : loopsIn (loopOf 0 (codeOf Try.f75)) 0 = [] := by kernel_rfl
theorem n75_0_ok (K : Nat) : LentOk Try.prog Try.f75 (loopOf 0 (codeOf Try.f75)) (n75_0 K) := lentOk_k (slots := [0, 13, 14, 15]) (ali := []) (ins := i75_0) (writes := [16, 17, 18, 7, 19, 20, 21, 22, 23, 24, 4, 25]) (exits := [0]) (rets := true) (rs := res75) (lib75_0 K) lp75_0 trivial (by kernel_rfl) (by kernel_rfl) (by kernel_rfl) (by kernel_rfl) (by kernel_rfl) (fun k x => impll75_0 K k x.1 x.2.1 x.2.2.1 x.2.2.2.1) (fun _ => rfl) (fun k x => q75_0 K (impll75_0 K k) x.1 x.2.1 x.2.2.1 x.2.2.2.1) K
noncomputable def L75_1 (K : Nat) : Lib := mkLib ti [(31, [e31 K]), (60, [e60 K])] [] 75 [(0, [n75_0 K])]
theorem lib75_1 (K : Nat) : LibOk Try.prog (L75_1 K) := libOk_mk (ents := [(31, [e31 K]), (60, [e60 K])]) (bodies := []) (loops := [(0, [n75_0 K])]) order tiOk ⟨one_ent (e31_ok K), one_ent (e60_ok K), trivial⟩ trivial Try.func75 rfl lp75 ⟨one_lent (n75_0_ok K), trivial⟩
noncomputable def implf75 (K : Nat) (x1 : (List (Int × (Int × Int)))) (x2 : (List Int)) : Option (Int) :=
  (ob (implf31 K x1) fun y1 => (bif y1 != (0 : Int) then some (y1) else (ob (impll75_0 K K x1 x2 ((↑x2.length : Int)) ((0 : Int))) fun y2 => (match y2 with | .inl y3 => some ((0 : Int)) | .inr y3 => some (y3)))))
theorem q75 (K : Nat) (x1 : (List (Int × (Int × Int)))) (x2 : (List Int)) : evFnK (α := Int) (L75_1 K) 3 75 Try.f75.results.toList (codeOf Try.f75) ins75 res75 (fun p => p.1) (x1, x2, ()) = implf75 K x1 x2 := by kernel_rfl
noncomputable def e75 (K : Nat) : Ent := ⟨ins75, res75, Int, fun x => implf75 K x.1 x.2.1, fun _ => (fun y => (y, (()))), false⟩
theorem e75_ok (K : Nat) : EntOk Try.prog 75 (e75 K) := entOk_k (ins := ins75) (rs := res75) (α := Int) (lib75_1 K) (d := 3) Try.func75 rfl (by kernel_rfl) (by kernel_rfl) (by kernel_rfl) (fun x => implf75 K x.1 x.2.1) (fun p => p.1) (fun y => (y, (()))) (fun _ => rfl) (fun x => q75 K x.1 x.2.1)

/-! diaphone/watch.Overlap -/
abbrev ins29 : Fs := [(.dat (.sl (.pr (.int .i64) (.pr (.int .i64) (.int .i64)))), false), (.dat (.int .i64), false), (.dat (.int .i64), false)]
abbrev res29 : Sh := .cons (.dat (.bool)) (.cons (.dat (.int .i64)) (.un))
theorem lp29 : loopsIn (codeOf Try.f29) 0 = [] := by kernel_rfl
noncomputable def L29_0 (K : Nat) : Lib := mkLib ti [(61, [e61 K]), (75, [e75 K])] [] 29 []
theorem lib29_0 (K : Nat) : LibOk Try.prog (L29_0 K) := libOk_mk (ents := [(61, [e61 K]), (75, [e75 K])]) (bodies := []) (loops := []) order tiOk ⟨one_ent (e61_ok K), one_ent (e75_ok K), trivial⟩ trivial Try.func29 rfl lp29 trivial
noncomputable def implf29 (K : Nat) (x1 : (List (Int × (Int × Int)))) (x2 : Int) (x3 : Int) : Option (Bool × Int) :=
  (ob (implf75 K x1 (((List.replicate 2 ((0 : Int))).set 0 x2).set 1 x3)) fun y1 => (bif y1 != (0 : Int) then some ((false, y1)) else (if (0 : Int) ≤ x2 ∧ x2 < (↑x1.length : Int) then (if (0 : Int) ≤ x3 ∧ x3 < (↑x1.length : Int) then (ob (implf61 K (x1.getD x2.toNat ((0 : Int), (0 : Int), (0 : Int))) (x1.getD x3.toNat ((0 : Int), (0 : Int), (0 : Int)))) fun y2 => some ((y2, (0 : Int)))) else none) else none)))
theorem q29 (K : Nat) (x1 : (List (Int × (Int × Int)))) (x2 : Int) (x3 : Int) : evFnK (α := Bool × Int) (L29_0 K) 3 29 Try.f29.results.toList (codeOf Try.f29) ins29 res29 (fun p => (p.1.1, p.1.2.1)) (x1, x2, x3, ()) = implf29 K x1 x2 x3 := by kernel_rfl
noncomputable def e29 (K : Nat) : Ent := ⟨ins29, res29, Bool × Int, fun x => implf29 K x.1 x.2.1 x.2.2.1, fun _ => (fun y => ((y.1, y.2, ()), (()))), false⟩
theorem e29_ok (K : Nat) : EntOk Try.prog 29 (e29 K) := entOk_k (ins := ins29) (rs := res29) (α := Bool × Int) (lib29_0 K) (d := 3) Try.func29 rfl (by kernel_rfl) (by kernel_rfl) (by kernel_rfl) (fun x => implf29 K x.1 x.2.1 x.2.2.1) (fun p => (p.1.1, p.1.2.1)) (fun y => ((y.1, y.2, ()), (()))) (fun _ => rfl) (fun x => q29 K x.1 x.2.1 x.2.2.1)

/-! diaphone/diaphoneref04.one -/
abbrev ins76 : Fs := [(.dat (.sl (.pr (.int .i64) (.pr (.int .i64) (.int .i64)))), false), (.dat (.int .i64), false)]
abbrev res76 : Sh := .dat (.int .i64)
theorem lp76 : loopsIn (codeOf Try.f76) 0 = [] := by kernel_rfl
noncomputable def L76_0 (K : Nat) : Lib := mkLib ti [(25, [e25 K]), (65, [e65 K])] [] 76 []
theorem lib76_0 (K : Nat) : LibOk Try.prog (L76_0 K) := libOk_mk (ents := [(25, [e25 K]), (65, [e65 K])]) (bodies := []) (loops := []) order tiOk ⟨one_ent (e25_ok K), one_ent (e65_ok K), trivial⟩ trivial Try.func76 rfl lp76 trivial
noncomputable def implf76 (K : Nat) (x1 : (List (Int × (Int × Int)))) (x2 : Int) : Option (Int) :=
  (ob (implf25 K x1) fun y1 => (bif y1 != (0 : Int) then some (y1) else (ob (implf65 K x2 ((0 : Int)) (IntKind.i64.wrap ((↑x1.length : Int) - (1 : Int)))) fun y2 => (bif !y2 then some ((4 : Int)) else some ((0 : Int))))))
theorem q76 (K : Nat) (x1 : (List (Int × (Int × Int)))) (x2 : Int) : evFnK (α := Int) (L76_0 K) 3 76 Try.f76.results.toList (codeOf Try.f76) ins76 res76 (fun p => p.1) (x1, x2, ()) = implf76 K x1 x2 := by kernel_rfl
noncomputable def e76 (K : Nat) : Ent := ⟨ins76, res76, Int, fun x => implf76 K x.1 x.2.1, fun _ => (fun y => (y, (()))), false⟩
theorem e76_ok (K : Nat) : EntOk Try.prog 76 (e76 K) := entOk_k (ins := ins76) (rs := res76) (α := Int) (lib76_0 K) (d := 3) Try.func76 rfl (by kernel_rfl) (by kernel_rfl) (by kernel_rfl) (fun x => implf76 K x.1 x.2.1) (fun p => p.1) (fun y => (y, (()))) (fun _ => rfl) (fun x => q76 K x.1 x.2.1)

/-! diaphone/diaphoneref04.Overlap -/
abbrev ins30 : Fs := [(.dat (.sl (.pr (.int .i64) (.pr (.int .i64) (.int .i64)))), false), (.dat (.int .i64), false), (.dat (.int .i64), false)]
abbrev res30 : Sh := .cons (.dat (.bool)) (.cons (.dat (.int .i64)) (.un))
theorem lp30 : loopsIn (codeOf Try.f30) 0 = [] := by kernel_rfl
noncomputable def L30_0 (K : Nat) : Lib := mkLib ti [(66, [e66 K]), (76, [e76 K])] [] 30 []
theorem lib30_0 (K : Nat) : LibOk Try.prog (L30_0 K) := libOk_mk (ents := [(66, [e66 K]), (76, [e76 K])]) (bodies := []) (loops := []) order tiOk ⟨one_ent (e66_ok K), one_ent (e76_ok K), trivial⟩ trivial Try.func30 rfl lp30 trivial
noncomputable def implf30 (K : Nat) (x1 : (List (Int × (Int × Int)))) (x2 : Int) (x3 : Int) : Option (Bool × Int) :=
  (ob (implf76 K x1 x2) fun y1 => (bif y1 != (0 : Int) then some ((false, y1)) else (ob (implf76 K x1 x3) fun y2 => (bif y2 != (0 : Int) then some ((false, y2)) else (if (0 : Int) ≤ x2 ∧ x2 < (↑x1.length : Int) then (if (0 : Int) ≤ x3 ∧ x3 < (↑x1.length : Int) then (ob (implf66 K (x1.getD x2.toNat ((0 : Int), (0 : Int), (0 : Int))) (x1.getD x3.toNat ((0 : Int), (0 : Int), (0 : Int)))) fun y3 => some ((y3, (0 : Int)))) else none) else none)))))
theorem q30 (K : Nat) (x1 : (List (Int × (Int × Int)))) (x2 : Int) (x3 : Int) : evFnK (α := Bool × Int) (L30_0 K) 3 30 Try.f30.results.toList (codeOf Try.f30) ins30 res30 (fun p => (p.1.1, p.1.2.1)) (x1, x2, x3, ()) = implf30 K x1 x2 x3 := by kernel_rfl
noncomputable def e30 (K : Nat) : Ent := ⟨ins30, res30, Bool × Int, fun x => implf30 K x.1 x.2.1 x.2.2.1, fun _ => (fun y => ((y.1, y.2, ()), (()))), false⟩
theorem e30_ok (K : Nat) : EntOk Try.prog 30 (e30 K) := entOk_k (ins := ins30) (rs := res30) (α := Bool × Int) (lib30_0 K) (d := 3) Try.func30 rfl (by kernel_rfl) (by kernel_rfl) (by kernel_rfl) (fun x => implf30 K x.1 x.2.1 x.2.2.1) (fun p => (p.1.1, p.1.2.1)) (fun y => ((y.1, y.2, ()), (()))) (fun _ => rfl) (fun x => q30 K x.1 x.2.1 x.2.2.1)

/-! diaphone/diaphonelaw04.WatchShifts -/
abbrev ins5 : Fs := [(.dat (.sl (.pr (.int .i64) (.pr (.int .i64) (.int .i64)))), false), (.dat (.int .i64), false), (.dat (.int .i64), false)]
abbrev res5 : Sh := .dat (.bool)
theorem lp5 : loopsIn (codeOf Try.f5) 0 = [] := by kernel_rfl
noncomputable def L5_0 (K : Nat) : Lib := mkLib ti [(19, [e19 K]), (20, [e20 K]), (25, [e25 K]), (29, [e29 K]), (30, [e30 K]), (31, [e31 K])] [] 5 []
theorem lib5_0 (K : Nat) : LibOk Try.prog (L5_0 K) := libOk_mk (ents := [(19, [e19 K]), (20, [e20 K]), (25, [e25 K]), (29, [e29 K]), (30, [e30 K]), (31, [e31 K])]) (bodies := []) (loops := []) order tiOk ⟨one_ent (e19_ok K), one_ent (e20_ok K), one_ent (e25_ok K), one_ent (e29_ok K), one_ent (e30_ok K), one_ent (e31_ok K), trivial⟩ trivial Try.func5 rfl lp5 trivial
noncomputable def implf5 (K : Nat) (x1 : (List (Int × (Int × Int)))) (x2 : Int) (x3 : Int) : Option (Bool) :=
  (ob (implf19 K x1 []) fun y1 => (bif y1 then (ob (implf20 K) fun y2 => some (y2)) else (ob (implf29 K x1 x2 x3) fun y3 => (ob (implf30 K x1 x2 x3) fun y4 => (ob (implf31 K x1) fun y5 => (ob (implf25 K x1) fun y6 => (bif y5 == y6 then (bif y3.1 == y4.1 then (bif y3.2 == y4.2 then (ob (implf20 K) fun y7 => some (y7)) else some (false)) else some (false)) else some (false))))))))
theorem q5 (K : Nat) (x1 : (List (Int × (Int × Int)))) (x2 : Int) (x3 : Int) : evFnK (α := Bool) (L5_0 K) 3 5 Try.f5.results.toList (codeOf Try.f5) ins5 res5 (fun p => p.1) (x1, x2, x3, ()) = implf5 K x1 x2 x3 := by kernel_rfl
noncomputable def e5 (K : Nat) : Ent := ⟨ins5, res5, Bool, fun x => implf5 K x.1 x.2.1 x.2.2.1, fun _ => (fun y => (y, (()))), false⟩
theorem e5_ok (K : Nat) : EntOk Try.prog 5 (e5 K) := entOk_k (ins := ins5) (rs := res5) (α := Bool) (lib5_0 K) (d := 3) Try.func5 rfl (by kernel_rfl) (by kernel_rfl) (by kernel_rfl) (fun x => implf5 K x.1 x.2.1 x.2.2.1) (fun p => p.1) (fun y => (y, (()))) (fun _ => rfl) (fun x => q5 K x.1 x.2.1 x.2.2.1)

/-! diaphone/watch.Roster -/
abbrev ins32 : Fs := [(.dat (.sl (.pr (.int .i64) (.pr (.int .i64) (.int .i64)))), false)]
abbrev res32 : Sh := .cons (.own (.int .i64)) (.cons (.dat (.int .i64)) (.un))
theorem lp32 : loopsIn (codeOf Try.f32) 0 = [(0, loopOf 0 (codeOf Try.f32))] := by kernel_rfl
noncomputable def L32_0 (K : Nat) : Lib := mkLibR ti [(31, [e31 K]), (67, [e67a K, e67b K]), (94, [e94 K]), (95, [e95 K]), (78, [e78a K, e78b K, e78c K, e78d K])] [(68, Try.f68), (79, Try.f79)] 32 [] [] [79]
theorem lib32_0 (K : Nat) : LibOk Try.prog (L32_0 K) := libOk_mkR (ents := [(31, [e31 K]), (67, [e67a K, e67b K]), (94, [e94 K]), (95, [e95 K]), (78, [e78a K, e78b K, e78c K, e78d K])]) (bodies := [(68, Try.f68), (79, Try.f79)]) (loops := []) order tiOk ⟨one_ent (e31_ok K), more_ent (e67a_ok K) (one_ent (e67b_ok K)), one_ent (e94_ok K), one_ent (e95_ok K), more_ent (e78a_ok K) (more_ent (e78b_ok K) (more_ent (e78c_ok K) (one_ent (e78d_ok K)))), trivial⟩ ⟨bod68, bod79, trivial⟩ Try.func32 rfl lp32 ⟨no_lent, trivial⟩ (rngs := []) trivial (frz := [79])
abbrev i32_0 : Fs := [(.own (.int Go.IntKind.i64), true), (.own (.int .i64), true), (.dat (.sl (.pr (.pr (.int Go.IntKind.i64) (.pr (.int Go.IntKind.i64) (.int Go.IntKind.i64))) (.int Go.IntKind.i64))), false), (.dat (.int Go.IntKind.i64), false), (.dat (.int Go.IntKind.i64), true)]
noncomputable def implb32_0 (K : Nat) (rc : (List Int) → (List Int) → (List ((Int × (Int × Int)) × Int)) → Int → Int → Option ((List Int) × (List Int) × Int × Unit)) (x1 : (List Int)) (x2 : (List Int)) (x3 : (List ((Int × (Int × Int)) × Int))) (x4 : Int) (x5 : Int) : Option ((List Int) × (List Int) × Int × Unit) :=
  (bif decide (x5 < x4) then (if (0 : Int) ≤ x5 ∧ x5 < (↑x3.length : Int) then (ob (implf78d K x2 (x3.getD x5.toNat (((0 : Int), (0 : Int), (0 : Int)), (0 : Int)), ())) fun y1 => (bif decide (y1 < (0 : Int)) then (if (x2.length + ((List.replicate 1 ((0 : Int))).set 0 ((0 : Int))).length) * 8 ≤ 140737488355328 then (if (0 : Int) ≤ (↑x2.length : Int) ∧ (↑x2.length : Int) < (↑(x2 ++ (List.replicate 1 ((0 : Int))).set 0 ((0 : Int))).length : Int) then (if (0 : Int) ≤ (x3.getD x5.toNat (((0 : Int), (0 : Int), (0 : Int)), (0 : Int))).2 ∧ (x3.getD x5.toNat (((0 : Int), (0 : Int), (0 : Int)), (0 : Int))).2 < (↑x1.length : Int) then (rc (x1.set (x3.getD x5.toNat (((0 : Int), (0 : Int), (0 : Int)), (0 : Int))).2.toNat ((↑x2.length : Int))) ((x2 ++ (List.replicate 1 ((0 : Int))).set 0 ((0 : Int))).set (↑x2.length : Int).toNat (x3.getD x5.toNat (((0 : Int), (0 : Int), (0 : Int)), (0 : Int))).1.2.1) x3 x4 (IntKind.i64.wrap (x5 + (1 : Int)))) else none) else none) else none) else (if (0 : Int) ≤ y1 ∧ y1 < (↑x2.length : Int) then (if (0 : Int) ≤ (x3.getD x5.toNat (((0 : Int), (0 : Int), (0 : Int)), (0 : Int))).2 ∧ (x3.getD x5.toNat (((0 : Int), (0 : Int), (0 : Int)), (0 : Int))).2 < (↑x1.length : Int) then (rc (x1.set (x3.getD x5.toNat (((0 : Int), (0 : Int), (0 : Int)), (0 : Int))).2.toNat y1) (x2.set y1.toNat (x3.getD x5.toNat (((0 : Int), (0 : Int), (0 : Int)), (0 : Int))).1.2.1) x3 x4 (IntKind.i64.wrap (x5 + (1 : Int)))) else none) else none))) else none) else some ((x1, x2, x5, ())))
noncomputable def impll32_0 (K : Nat) : Nat → (List Int) → (List Int) → (List ((Int × (Int × Int)) × Int)) → Int → Int → Option ((List Int) × (List Int) × Int × Unit)
  | 0, _, _, _, _, _ => none
  | k + 1, x1, x2, x3, x4, x5 => implb32_0 K (impll32_0 K k) x1 x2 x3 x4 x5
noncomputable def n32_0 (K : Nat) : Lent := ⟨[5, 6, 19, 20, 21], i32_0, [22, 23, 24, 8, 25, 26, 27, 9, 28, 29, 30, 31, 32, 33, 34, 35, 36, 37, 38, 39, 40, 41, 42, 43, 44, 45, 46], [0], false, res32, fun x => impll32_0 K K x.1 x.2.1 x.2.2.1 x.2.2.2.1 x.2.2.2.2.1, []⟩
theorem q32_0 (K : Nat) (rc : (List Int) → (List Int) → (List ((Int × (Int × Int)) × Int)) → Int → Int → Option ((List Int) × (List Int) × Int × Unit)) (x1 : (List Int)) (x2 : (List Int)) (x3 : (List ((Int × (Int × Int)) × Int))) (x4 : Int) (x5 : Int) : evLoop (L32_0 K) 3 32 Try.f32.results.toList (loopOf 0 (codeOf Try.f32)) 0 [5, 6, 19, 20, 21] [] i32_0 [0] false res32 (fun x => rc x.1 x.2.1 x.2.2.1 x.2.2.2.1 x.2.2.2.2.1) (x1, x2, x3, x4, x5, ()) = implb32_0 K rc x1 x2 x3 x4 x5 := by kernel_rfl
theorem lp32_0 : loopsIn (loopOf 0 (codeOf Try.f32)) 0 = [] := by kernel_rfl
theorem n32_0_ok (K : Nat) : LentOk Try.prog Try.f32 (loopOf 0 (codeOf Try.f32)) (n32_0 K) := lentOk_kR (slots := [5, 6, 19, 20, 21]) (ali := []) (ins := i32_0) (writes := [22, 23, 24, 8, 25, 26, 27, 9, 28, 29, 30, 31, 32, 33, 34, 35, 36, 37, 38, 39, 40, 41, 42, 43, 44, 45, 46]) (exits := [0]) (rets := false) (rs := res32) (lib32_0 K) Try.func32 rfl (.inl (by kernel_rfl)) lp32_0 trivial (by kernel_rfl) (by kernel_rfl) (by kernel_rfl) (by kernel_rfl) (by kernel_rfl) (fun k x => impll32_0 K k x.1 x.2.1 x.2.2.1 x.2.2.2.1 x.2.2.2.2.1) (fun _ => rfl) (fun k x => q32_0 K (impll32_0 K k) x.1 x.2.1 x.2.2.1 x.2.2.2.1 x.2.2.2.2.1) K
noncomputable def L32_1 (K : Nat) : Lib := mkLibR ti [(31, [e31 K]), (67, [e67a K, e67b K]), (94, [e94 K]), (95, [e95 K]), (78, [e78a K, e78b K, e78c K, e78d K])] [(68, Try.f68), (79, Try.f79)] 32 [(0, [n32_0 K])] [] [79]
theorem lib32_1 (K : Nat) : LibOk Try.prog (L32_1 K) := libOk_mkR (ents := [(31, [e31 K]), (67, [e67a K, e67b K]), (94, [e94 K]), (95, [e95 K]), (78, [e78a K, e78b K, e78c K, e78d K])]) (bodies := [(68, Try.f68), (79, Try.f79)]) (loops := [(0, [n32_0 K])]) order tiOk ⟨one_ent (e31_ok K), more_ent (e67a_ok K) (one_ent (e67b_ok K)), one_ent (e94_ok K), one_ent (e95_ok K), more_ent (e78a_ok K) (more_ent (e78b_ok K) (more_ent (e78c_ok K) (one_ent (e78d_ok K)))), trivial⟩ ⟨bod68, bod79, trivial⟩ Try.func32 rfl lp32 ⟨one_lent (n32_0_ok K), trivial⟩ (rngs := []) trivial (frz := [79])
noncomputable def implf32 (K : Nat) (x1 : (List (Int × (Int × Int)))) : Option ((List Int) × Int) :=
  (ob (implf31 K x1) fun y1 => (bif y1 != (0 : Int) then some (([], y1)) else (if (0 : Int) ≤ (↑x1.length : Int) ∧ (↑x1.length : Int) * (8 : Int) ≤ (140737488355328 : Int) then (ob (implf67a K x1 ()) fun y2 => (ob (impll32_0 K K (List.replicate (↑x1.length : Int).toNat ((0 : Int))) [] y2 ((↑y2.length : Int)) ((0 : Int))) fun y3 => some ((y3.1, (0 : Int))))) else none)))
theorem q32 (K : Nat) (x1 : (List (Int × (Int × Int)))) : evFnK (α := (List Int) × Int) (L32_1 K) 3 32 Try.f32.results.toList (codeOf Try.f32) ins32 res32 (fun p => (p.1.1, p.1.2.1)) (x1, ()) = implf32 K x1 := by kernel_rfl
noncomputable def e32 (K : Nat) : Ent := ⟨ins32, res32, (List Int) × Int, fun x => implf32 K x.1, fun _ => (fun y => ((y.1, y.2, ()), (()))), false⟩
theorem e32_ok (K : Nat) : EntOk Try.prog 32 (e32 K) := entOk_k (ins := ins32) (rs := res32) (α := (List Int) × Int) (lib32_1 K) (d := 3) Try.func32 rfl (by kernel_rfl) (by kernel_rfl) (by kernel_rfl) (fun x => implf32 K x.1) (fun p => (p.1.1, p.1.2.1)) (fun y => ((y.1, y.2, ()), (()))) (fun _ => rfl) (fun x => q32 K x.1)

/-! diaphone/diaphoneref04.running -/
abbrev ins80 : Fs := [(.dat (.sl (.pr (.int .i64) (.pr (.int .i64) (.int .i64)))), false), (.dat (.int .i64), false)]
abbrev res80 : Sh := .own (.int .i64)
theorem lp80 : loopsIn (codeOf Try.f80) 0 = [(0, loopOf 0 (codeOf Try.f80))] := by kernel_rfl
noncomputable def L80_0 (K : Nat) : Lib := mkLib ti [(83, [e83 K])] [] 80 []
theorem lib80_0 (K : Nat) : LibOk Try.prog (L80_0 K) := libOk_mk (ents := [(83, [e83 K])]) (bodies := []) (loops := []) order tiOk ⟨one_ent (e83_ok K), trivial⟩ trivial Try.func80 rfl lp80 ⟨no_lent, trivial⟩
abbrev i80_0 : Fs := [(.dat (.sl (.pr (.int Go.IntKind.i64) (.pr (.int Go.IntKind.i64) (.int Go.IntKind.i64)))), false), (.dat (.int Go.IntKind.i64), false), (.own (.int .i64), true), (.dat (.int Go.IntKind.i64), true)]
noncomputable def implb80_0 (K : Nat) (rc : (List (Int × (Int × Int))) → Int → (List Int) → Int → Option ((List Int) × Int × Unit)) (x1 : (List (Int × (Int × Int)))) (x2 : Int) (x3 : (List Int)) (x4 : Int) : Option ((List Int) × Int × Unit) :=
  (bif decide (x4 < (↑x1.length : Int)) then (if (0 : Int) ≤ x4 ∧ x4 < (↑x1.length : Int) then (ob (implf83 K (x1.getD x4.toNat ((0 : Int), (0 : Int), (0 : Int))) x2) fun y1 => (bif y1 then (if (x3.length + ((List.replicate 1 ((0 : Int))).set 0 x4).length) * 8 ≤ 140737488355328 then (rc x1 x2 (x3 ++ (List.replicate 1 ((0 : Int))).set 0 x4) (IntKind.i64.wrap (x4 + (1 : Int)))) else none) else (rc x1 x2 x3 (IntKind.i64.wrap (x4 + (1 : Int)))))) else none) else some ((x3, x4, ())))
noncomputable def impll80_0 (K : Nat) : Nat → (List (Int × (Int × Int))) → Int → (List Int) → Int → Option ((List Int) × Int × Unit)
  | 0, _, _, _, _ => none
  | k + 1, x1, x2, x3, x4 => implb80_0 K (impll80_0 K k) x1 x2 x3 x4
noncomputable def n80_0 (K : Nat) : Lent := ⟨[0, 1, 5, 6], i80_0, [7, 8, 9, 10, 13, 14, 15, 16, 17, 18, 19, 20, 21, 22, 11, 12], [0], false, res80, fun x => impll80_0 K K x.1 x.2.1 x.2.2.1 x.2.2.2.1, []⟩
theorem q80_0 (K : Nat) (rc : (List (Int × (Int × Int))) → Int → (List Int) → Int → Option ((List Int) × Int × Unit)) (x1 : (List (Int × (Int × Int)))) (x2 : Int) (x3 : (List Int)) (x4 : Int) : evLoop (L80_0 K) 3 80 Try.f80.results.toList (loopOf 0 (codeOf Try.f80)) 0 [0, 1, 5, 6] [] i80_0 [0] false res80 (fun x => rc x.1 x.2.1 x.2.2.1 x.2.2.2.1) (x1, x2, x3, x4, ()) = implb80_0 K rc x1 x2 x3 x4 := by kernel_rfl
theorem lp80_0 : loopsIn (loopOf 0 (codeOf Try.f80)) 0 = [] := by kernel_rfl
theorem n80_0_ok (K : Nat) : LentOk Try.prog Try.f80 (loopOf 0 (codeOf Try.f80)) (n80_0 K) := lentOk_k (slots := [0, 1, 5, 6]) (ali := []) (ins := i80_0) (writes := [7, 8, 9, 10, 13, 14, 15, 16, 17, 18, 19, 20, 21, 22, 11, 12]) (exits := [0]) (rets := false) (rs := res80) (lib80_0 K) lp80_0 trivial (by kernel_rfl) (by kernel_rfl) (by kernel_rfl) (by kernel_rfl) (by kernel_rfl) (fun k x => impll80_0 K k x.1 x.2.1 x.2.2.1 x.2.2.2.1) (fun _ => rfl) (fun k x => q80_0 K (impll80_0 K k) x.1 x.2.1 x.2.2.1 x.2.2.2.1) K
noncomputable def L80_1 (K : Nat) : Lib := mkLib ti [(83, [e83 K])] [] 80 [(0, [n80_0 K])]
theorem lib80_1 (K : Nat) : LibOk Try.prog (L80_1 K) := libOk_mk (ents := [(83, [e83 K])]) (bodies := []) (loops := [(0, [n80_0 K])]) order tiOk ⟨one_ent (e83_ok K), trivial⟩ trivial Try.func80 rfl lp80 ⟨one_lent (n80_0_ok K), trivial⟩
noncomputable def implf80 (K : Nat) (x1 : (List (Int × (Int × Int)))) (x2 : Int) : Option ((List Int)) :=
  (ob (impll80_0 K K x1 x2 [] ((0 : Int))) fun y1 => some (y1.1))
theorem q80 (K : Nat) (x1 : (List (Int × (Int × Int)))) (x2 : Int) : evFnK (α := (List Int)) (L80_1 K) 3 80 Try.f80.results.toList (codeOf Try.f80) ins80 res80 (fun p => p.1) (x1, x2, ()) = implf80 K x1 x2 := by kernel_rfl
noncomputable def e80 (K : Nat) : Ent := ⟨ins80, res80, (List Int), fun x => implf80 K x.1 x.2.1, fun _ => (fun y => (y, (()))), false⟩
theorem e80_ok (K : Nat) : EntOk Try.prog 80 (e80 K) := entOk_k (ins := ins80) (rs := res80) (α := (List Int)) (lib80_1 K) (d := 3) Try.func80 rfl (by kernel_rfl) (by kernel_rfl) (by kernel_rfl) (fun x => implf80 K x.1 x.2.1) (fun p => p.1) (fun y => (y, (()))) (fun _ => rfl) (fun x => q80 K x.1 x.2.1)

/-! diaphone/diaphoneref04.Peak -/
abbrev ins33 : Fs := [(.dat (.sl (.pr (.int .i64) (.pr (.int .i64) (.int .i64)))), false)]
abbrev res33 : Sh := .cons (.dat (.int .i64)) (.cons (.dat (.int .i64)) (.cons (.dat (.int .i64)) (.un)))
theorem lp33 : loopsIn (codeOf Try.f33) 0 = [(0, loopOf 0 (codeOf Try.f33))] := by kernel_rfl
noncomputable def L33_0 (K : Nat) : Lib := mkLib ti [(25, [e25 K]), (80, [e80 K])] [] 33 []
theorem lib33_0 (K : Nat) : LibOk Try.prog (L33_0 K) := libOk_mk (ents := [(25, [e25 K]), (80, [e80 K])]) (bodies := []) (loops := []) order tiOk ⟨one_ent (e25_ok K), one_ent (e80_ok K), trivial⟩ trivial Try.func33 rfl lp33 ⟨no_lent, trivial⟩
abbrev i33_0 : Fs := [(.dat (.sl (.pr (.int Go.IntKind.i64) (.pr (.int Go.IntKind.i64) (.int Go.IntKind.i64)))), false), (.dat (.int Go.IntKind.i64), true), (.dat (.int Go.IntKind.i64), true), (.dat (.int Go.IntKind.i64), true)]
noncomputable def implb33_0 (K : Nat) (rc : (List (Int × (Int × Int))) → Int → Int → Int → Option (Int × Int × Int × Unit)) (x1 : (List (Int × (Int × Int)))) (x2 : Int) (x3 : Int) (x4 : Int) : Option (Int × Int × Int × Unit) :=
  (bif decide (x4 ≤ (1000 : Int)) then (ob (implf80 K x1 x4) fun y1 => (bif decide ((↑y1.length : Int) > x3) then (rc x1 x4 ((↑y1.length : Int)) (IntKind.i64.wrap (x4 + (1 : Int)))) else (rc x1 x2 x3 (IntKind.i64.wrap (x4 + (1 : Int)))))) else some ((x2, x3, x4, ())))
noncomputable def impll33_0 (K : Nat) : Nat → (List (Int × (Int × Int))) → Int → Int → Int → Option (Int × Int × Int × Unit)
  | 0, _, _, _, _ => none
  | k + 1, x1, x2, x3, x4 => implb33_0 K (impll33_0 K k) x1 x2 x3 x4
noncomputable def n33_0 (K : Nat) : Lent := ⟨[0, 6, 7, 8], i33_0, [15, 16, 19, 20, 21, 22, 9, 23, 24, 25, 26, 27, 17, 18], [0], false, res33, fun x => impll33_0 K K x.1 x.2.1 x.2.2.1 x.2.2.2.1, []⟩
theorem q33_0 (K : Nat) (rc : (List (Int × (Int × Int))) → Int → Int → Int → Option (Int × Int × Int × Unit)) (x1 : (List (Int × (Int × Int)))) (x2 : Int) (x3 : Int) (x4 : Int) : evLoop (L33_0 K) 3 33 Try.f33.results.toList (loopOf 0 (codeOf Try.f33)) 0 [0, 6, 7, 8] [] i33_0 [0] false res33 (fun x => rc x.1 x.2.1 x.2.2.1 x.2.2.2.1) (x1, x2, x3, x4, ()) = implb33_0 K rc x1 x2 x3 x4 := by kernel_rfl
theorem lp33_0 : loopsIn (loopOf 0 (codeOf Try.f33)) 0 = [] := by kernel_rfl
theorem n33_0_ok (K : Nat) : LentOk Try.prog Try.f33 (loopOf 0 (codeOf Try.f33)) (n33_0 K) := lentOk_k (slots := [0, 6, 7, 8]) (ali := []) (ins := i33_0) (writes := [15, 16, 19, 20, 21, 22, 9, 23, 24, 25, 26, 27, 17, 18]) (exits := [0]) (rets := false) (rs := res33) (lib33_0 K) lp33_0 trivial (by kernel_rfl) (by kernel_rfl) (by kernel_rfl) (by kernel_rfl) (by kernel_rfl) (fun k x => impll33_0 K k x.1 x.2.1 x.2.2.1 x.2.2.2.1) (fun _ => rfl) (fun k x => q33_0 K (impll33_0 K k) x.1 x.2.1 x.2.2.1 x.2.2.2.1) K
noncomputable def L33_1 (K : Nat) : Lib := mkLib ti [(25, [e25 K]), (80, [e80 K])] [] 33 [(0, [n33_0 K])]
theorem lib33_1 (K : Nat) : LibOk Try.prog (L33_1 K) := libOk_mk (ents := [(25, [e25 K]), (80, [e80 K])]) (bodies := []) (loops := [(0, [n33_0 K])]) order tiOk ⟨one_ent (e25_ok K), one_ent (e80_ok K), trivial⟩ trivial Try.func33 rfl lp33 ⟨one_lent (n33_0_ok K), trivial⟩
noncomputable def implf33 (K : Nat) (x1 : (List (Int × (Int × Int)))) : Option (Int × Int × Int) :=
  (ob (implf25 K x1) fun y1 => (bif y1 != (0 : Int) then some (((0 : Int), (0 : Int), y1)) else (ob (impll33_0 K K x1 ((0 : Int)) ((0 : Int)) ((0 : Int))) fun y2 => some ((y2.1, y2.2.1, (0 : Int))))))
theorem q33 (K : Nat) (x1 : (List (Int × (Int × Int)))) : evFnK (α := Int × Int × Int) (L33_1 K) 3 33 Try.f33.results.toList (codeOf Try.f33) ins33 res33 (fun p => (p.1.1, p.1.2.1, p.1.2.2.1)) (x1, ()) = implf33 K x1 := by kernel_rfl
noncomputable def e33 (K : Nat) : Ent := ⟨ins33, res33, Int × Int × Int, fun x => implf33 K x.1, fun _ => (fun y => ((y.1, y.2.1, y.2.2, ()), (()))), false⟩
theorem e33_ok (K : Nat) : EntOk Try.prog 33 (e33 K) := entOk_k (ins := ins33) (rs := res33) (α := Int × Int × Int) (lib33_1 K) (d := 3) Try.func33 rfl (by kernel_rfl) (by kernel_rfl) (by kernel_rfl) (fun x => implf33 K x.1) (fun p => (p.1.1, p.1.2.1, p.1.2.2.1)) (fun y => ((y.1, y.2.1, y.2.2, ()), (()))) (fun _ => rfl) (fun x => q33 K x.1)

/-! diaphone/diaphonelaw04.WatchKeepers -/
abbrev ins6 : Fs := [(.dat (.sl (.pr (.int .i64) (.pr (.int .i64) (.int .i64)))), false)]
abbrev res6 : Sh := .dat (.bool)
theorem lp6 : loopsIn (codeOf Try.f6) 0 = [] := by kernel_rfl
noncomputable def L6_0 (K : Nat) : Lib := mkLib ti [(19, [e19 K]), (20, [e20 K]), (22, [e22 K]), (32, [e32 K]), (33, [e33 K])] [] 6 []
theorem lib6_0 (K : Nat) : LibOk Try.prog (L6_0 K) := libOk_mk (ents := [(19, [e19 K]), (20, [e20 K]), (22, [e22 K]), (32, [e32 K]), (33, [e33 K])]) (bodies := []) (loops := []) order tiOk ⟨one_ent (e19_ok K), one_ent (e20_ok K), one_ent (e22_ok K), one_ent (e32_ok K), one_ent (e33_ok K), trivial⟩ trivial Try.func6 rfl lp6 trivial
noncomputable def implf6 (K : Nat) (x1 : (List (Int × (Int × Int)))) : Option (Bool) :=
  (ob (implf19 K x1 []) fun y1 => (bif y1 then (ob (implf20 K) fun y2 => some (y2)) else (ob (implf32 K x1) fun y3 => (ob (implf33 K x1) fun y4 => (bif y3.2 != y4.2.2 then some (false) else (bif y3.2 != (0 : Int) then (bif (↑y3.1.length : Int) == (0 : Int) then (ob (implf20 K) fun y5 => some (y5)) else some (false)) else (ob (implf22 K x1 y3.1) fun y6 => (bif y6.2 == (0 : Int) then (bif y6.1 == y4.2.1 then (ob (implf20 K) fun y7 => some (y7)) else some (false)) else some (false)))))))))
theorem q6 (K : Nat) (x1 : (List (Int × (Int × Int)))) : evFnK (α := Bool) (L6_0 K) 3 6 Try.f6.results.toList (codeOf Try.f6) ins6 res6 (fun p => p.1) (x1, ()) = implf6 K x1 := by kernel_rfl
noncomputable def e6 (K : Nat) : Ent := ⟨ins6, res6, Bool, fun x => implf6 K x.1, fun _ => (fun y => (y, (()))), false⟩
theorem e6_ok (K : Nat) : EntOk Try.prog 6 (e6 K) := entOk_k (ins := ins6) (rs := res6) (α := Bool) (lib6_0 K) (d := 3) Try.func6 rfl (by kernel_rfl) (by kernel_rfl) (by kernel_rfl) (fun x => implf6 K x.1) (fun p => p.1) (fun y => (y, (()))) (fun _ => rfl) (fun x => q6 K x.1)

/-! diaphone/watch.Running -/
abbrev ins34 : Fs := [(.dat (.sl (.pr (.int .i64) (.pr (.int .i64) (.int .i64)))), false), (.dat (.int .i64), false)]
abbrev res34 : Sh := .cons (.own (.int .i64)) (.cons (.dat (.int .i64)) (.un))
theorem lp34 : loopsIn (codeOf Try.f34) 0 = [] := by kernel_rfl
noncomputable def L34_0 (K : Nat) : Lib := mkLibR ti [(31, [e31 K]), (60, [e60 K]), (88, [e88 K])] [(69, Try.f69), (81, Try.f81), (96, Try.f96), (97, Try.f97)] 34 [] [(97, 0, rd97)] [96]
theorem lib34_0 (K : Nat) : LibOk Try.prog (L34_0 K) := libOk_mkR (ents := [(31, [e31 K]), (60, [e60 K]), (88, [e88 K])]) (bodies := [(69, Try.f69), (81, Try.f81), (96, Try.f96), (97, Try.f97)]) (loops := []) order tiOk ⟨one_ent (e31_ok K), one_ent (e60_ok K), one_ent (e88_ok K), trivial⟩ ⟨bod69, bod81, bod96, bod97, trivial⟩ Try.func34 rfl lp34 trivial (rngs := [(97, 0, rd97)]) ⟨rd97_at, trivial⟩ (frz := [96])
noncomputable def implf34 (K : Nat) (x1 : (List (Int × (Int × Int)))) (x2 : Int) : Option ((List Int) × Int) :=
  (ob (implf31 K x1) fun y1 => (bif y1 != (0 : Int) then some (([], y1)) else (ob (implf60 K x2 ((0 : Int)) ((1000 : Int))) fun y2 => (bif !y2 then some (([], (1 : Int))) else (bif x1.length.ble 1000 then some ((List.map (fun x => x) (atN x1 x2 x1.length), (0 : Int))) else none)))))
theorem q34 (K : Nat) (x1 : (List (Int × (Int × Int)))) (x2 : Int) : evFnK (α := (List Int) × Int) (L34_0 K) 3 34 Try.f34.results.toList (codeOf Try.f34) ins34 res34 (fun p => (p.1.1, p.1.2.1)) (x1, x2, ()) = implf34 K x1 x2 := by kernel_rfl
noncomputable def e34 (K : Nat) : Ent := ⟨ins34, res34, (List Int) × Int, fun x => implf34 K x.1 x.2.1, fun _ => (fun y => ((y.1, y.2, ()), (()))), false⟩
theorem e34_ok (K : Nat) : EntOk Try.prog 34 (e34 K) := entOk_k (ins := ins34) (rs := res34) (α := (List Int) × Int) (lib34_0 K) (d := 3) Try.func34 rfl (by kernel_rfl) (by kernel_rfl) (by kernel_rfl) (fun x => implf34 K x.1 x.2.1) (fun p => (p.1.1, p.1.2.1)) (fun y => ((y.1, y.2, ()), (()))) (fun _ => rfl) (fun x => q34 K x.1 x.2.1)

end Go.Proofs.Ytbojnkcolamneaa
