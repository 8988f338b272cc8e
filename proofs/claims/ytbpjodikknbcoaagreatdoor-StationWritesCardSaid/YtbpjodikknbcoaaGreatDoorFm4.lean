/- What the functions compute: printed by a program of this claim's author. -/
import Derived.Test.YtbpjodikknbcoaaGreatDoorFm3
set_option maxRecDepth 100000
set_option linter.unusedVariables false
set_option linter.unusedSimpArgs false
namespace Go.Proofs.YtbpjodikknbcoaaGreatDoor
open Go Go.Pv
/-! diaphone/diaphoneref09.Merge -/
abbrev ins52 : Fs := [(.dat (.str), false), (.dat (.str), false)]
abbrev res52 : Sh := .cons (.dat (.str)) (.cons (.dat (.int .i64)) (.cons (.dat (.int .i64)) (.un)))
theorem lp52 : loopsIn (codeOf Tryz.f52) 0 = [(0, loopOf 0 (codeOf Tryz.f52))] := by kernel_rfl
noncomputable def L52_0 (K : Nat) : Lib := mkLib ti [(44, [e44 K])] [] 52 []
theorem lib52_0 (K : Nat) : LibOk Tryz.prog (L52_0 K) := libOk_mk (ents := [(44, [e44 K])]) (bodies := []) (loops := []) order tiOk ⟨one_ent (e44_ok K), trivial⟩ trivial Tryz.func52 rfl lp52 ⟨no_lent, trivial⟩
abbrev i52_0 : Fs := [(.dat (.str), false), (.dat (.str), false), (.dat (.sl (.str)), false), (.dat (.sl (.str)), false), (.dat (.int Go.IntKind.i64), true)]
noncomputable def implb52_0 (K : Nat) (rc : ByteArray → ByteArray → (List ByteArray) → (List ByteArray) → Int → Option (Sum (Int × Unit) (ByteArray × Int × Int × Unit))) (x1 : ByteArray) (x2 : ByteArray) (x3 : (List ByteArray)) (x4 : (List ByteArray)) (x5 : Int) : Option (Sum (Int × Unit) (ByteArray × Int × Int × Unit)) :=
  (bif decide (x5 < (↑x3.length : Int)) then (bif decide (x5 < (↑x4.length : Int)) then (if (0 : Int) ≤ x5 ∧ x5 < (↑x3.length : Int) then (if (0 : Int) ≤ x5 ∧ x5 < (↑x4.length : Int) then (bif !(x3.getD x5.toNat ByteArray.empty).toList == (x4.getD x5.toNat ByteArray.empty).toList then some (Sum.inr (ByteArray.mk #[], x5, (7 : Int), ())) else (rc x1 x2 x3 x4 (IntKind.i64.wrap (x5 + (1 : Int))))) else none) else none) else some (Sum.inl (x5, ()))) else some (Sum.inl (x5, ())))
noncomputable def impll52_0 (K : Nat) : Nat → ByteArray → ByteArray → (List ByteArray) → (List ByteArray) → Int → Option (Sum (Int × Unit) (ByteArray × Int × Int × Unit))
  | 0, _, _, _, _, _ => none
  | k + 1, x1, x2, x3, x4, x5 => implb52_0 K (impll52_0 K k) x1 x2 x3 x4 x5
noncomputable def n52_0 (K : Nat) : Lent := ⟨[0, 1, 7, 9, 11], i52_0, [28, 29, 30, 31, 32, 33, 34, 35, 36, 37, 40, 41, 42, 43, 44, 45, 46, 47, 48, 49, 4, 5, 6, 38, 39], [0], true, res52, fun x => impll52_0 K K x.1 x.2.1 x.2.2.1 x.2.2.2.1 x.2.2.2.2.1, [], none⟩
theorem q52_0 (K : Nat) (rc : ByteArray → ByteArray → (List ByteArray) → (List ByteArray) → Int → Option (Sum (Int × Unit) (ByteArray × Int × Int × Unit))) (x1 : ByteArray) (x2 : ByteArray) (x3 : (List ByteArray)) (x4 : (List ByteArray)) (x5 : Int) : evLoop (L52_0 K) 3 52 Tryz.f52.results.toList (loopOf 0 (codeOf Tryz.f52)) 0 [0, 1, 7, 9, 11] [] i52_0 [0] true res52 (fun x => rc x.1 x.2.1 x.2.2.1 x.2.2.2.1 x.2.2.2.2.1) (x1, x2, x3, x4, x5, ()) = implb52_0 K rc x1 x2 x3 x4 x5 := by kernel_rfl
theorem lp52_0 : loopsIn (loopOf 0 (codeOf Tryz.f52)) 0 = [] := by kernel_rfl
theorem n52_0_ok (K : Nat) : LentOk Tryz.prog Tryz.f52 (loopOf 0 (codeOf Tryz.f52)) (n52_0 K) := lentOk_k (slots := [0, 1, 7, 9, 11]) (ali := []) (ins := i52_0) (writes := [28, 29, 30, 31, 32, 33, 34, 35, 36, 37, 40, 41, 42, 43, 44, 45, 46, 47, 48, 49, 4, 5, 6, 38, 39]) (exits := [0]) (rets := true) (rs := res52) (d := 3) (lib52_0 K) lp52_0 trivial (by kernel_rfl) (by kernel_rfl) (by kernel_rfl) (by kernel_rfl) (by kernel_rfl) (fun k x => impll52_0 K k x.1 x.2.1 x.2.2.1 x.2.2.2.1 x.2.2.2.2.1) (fun _ => rfl) (fun k x => q52_0 K (impll52_0 K k) x.1 x.2.1 x.2.2.1 x.2.2.2.1 x.2.2.2.2.1) K
noncomputable def L52_1 (K : Nat) : Lib := mkLib ti [(44, [e44 K])] [] 52 [(0, [n52_0 K])]
theorem lib52_1 (K : Nat) : LibOk Tryz.prog (L52_1 K) := libOk_mk (ents := [(44, [e44 K])]) (bodies := []) (loops := [(0, [n52_0 K])]) order tiOk ⟨one_ent (e44_ok K), trivial⟩ trivial Tryz.func52 rfl lp52 ⟨one_lent (n52_0_ok K), trivial⟩
noncomputable def implf52 (K : Nat) (x1 : ByteArray) (x2 : ByteArray) : Option (ByteArray × Int × Int) :=
  (ob (implf44 K x1) fun y1 => (ob (implf44 K x2) fun y2 => (bif !y1.2.toList == (ByteArray.mk #[]).toList then some ((ByteArray.mk #[], (0 : Int), (11 : Int))) else (bif !y2.2.toList == (ByteArray.mk #[]).toList then some ((ByteArray.mk #[], (0 : Int), (11 : Int))) else (ob (impll52_0 K K x1 x2 y1.1 y2.1 ((0 : Int))) fun y3 => (match y3 with | .inl y4 => (bif decide ((↑y2.1.length : Int) > (↑y1.1.length : Int)) then some ((x2, (↑y2.1.length : Int), (0 : Int))) else some ((x1, (↑y1.1.length : Int), (0 : Int)))) | .inr y4 => some ((y4.1, y4.2.1, y4.2.2.1))))))))
theorem q52 (K : Nat) (x1 : ByteArray) (x2 : ByteArray) : evFnK (α := ByteArray × Int × Int) (L52_1 K) 3 52 Tryz.f52.results.toList (codeOf Tryz.f52) ins52 res52 (fun p => (p.1.1, p.1.2.1, p.1.2.2.1)) (x1, x2, ()) = implf52 K x1 x2 := by kernel_rfl
noncomputable def e52 (K : Nat) : Ent := ⟨ins52, res52, ByteArray × Int × Int, fun x => implf52 K x.1 x.2.1, fun _ => (fun y => ((y.1, y.2.1, y.2.2, ()), (()))), false⟩
theorem e52_ok (K : Nat) : EntOk Tryz.prog 52 (e52 K) := entOk_k (ins := ins52) (rs := res52) (α := ByteArray × Int × Int) (lib52_1 K) (d := 3) Tryz.func52 rfl (by kernel_rfl) (by kernel_rfl) (by kernel_rfl) (fun x => implf52 K x.1 x.2.1) (fun p => (p.1.1, p.1.2.1, p.1.2.2.1)) (fun y => ((y.1, y.2.1, y.2.2, ()), (()))) (fun _ => rfl) (fun x => q52 K x.1 x.2.1)

/-! diaphone/station.New -/
abbrev ins50c : Fs := [(.dat (.sl (.int .i64)), false), (.dat (.sl (.int .i64)), false), (.dat (.pr (.sl (.arr 2 (.int .i64))) (.sl (.int .i64))), false)]
abbrev res50c : Sh := .cons (.box (.pr (.dat (.pr (.int .i32) (.int .u32))) (.pr (.own (.int .i64)) (.pr (.own (.int .i64)) (.pr (.pr (.own (.arr 2 (.int .i64))) (.own (.int .i64))) (.pr (.dat (.int .i64)) (.pr (.dat (.bool)) (.pr (.dat (.int .i64)) (.pr (.dat (.int .i64)) (.pr (.dat (.int .i64)) (.pr (.dat (.int .i64)) (.pr (.dat (.int .i64)) (.pr (.dat (.int .i64)) (.pr (.dat (.int .i64)) (.pr (.dat (.int .i64)) (.pr (.dat (.int .i64)) (.pr (.dat (.int .i64)) (.own (.str))))))))))))))))))) (.cons (.dat (.int .i64)) (.un))
noncomputable def L50c_0 (K : Nat) : Lib := mkLib ti [(77, [e77 K]), (86, [e86 K]), (87, [e87 K]), (88, [e88 K]), (89, [e89 K])] [] 50 []
theorem lib50c_0 (K : Nat) : LibOk Tryz.prog (L50c_0 K) := libOk_mk (ents := [(77, [e77 K]), (86, [e86 K]), (87, [e87 K]), (88, [e88 K]), (89, [e89 K])]) (bodies := []) (loops := []) order tiOk ⟨one_ent (e77_ok K), one_ent (e86_ok K), one_ent (e87_ok K), one_ent (e88_ok K), one_ent (e89_ok K), trivial⟩ trivial Tryz.func50 rfl lp50 trivial
noncomputable def implf50c (K : Nat) (x1 : (List Int)) (x2 : (List Int)) (x3 : BOX) : Option (STN × Int) :=
  (ob (implf77 K x1) fun y1 => (bif y1 != (0 : Int) then none else (ob (implf86 K x2) fun y2 => (bif y2 != (0 : Int) then none else (ob (implf87 K x3) fun y3 => (bif y3 != (0 : Int) then none else (ob (implf88 K x1) fun y4 => (ob (implf88 K x2) fun y5 => (ob (implf89 K x3.1) fun y6 => (ob (implf88 K x3.2) fun y7 => some (((((0 : Int), (0 : Int)), y4, y5, (y6, y7), (0 : Int), false, (0 : Int), (0 : Int), (0 : Int), (0 : Int), (0 : Int), (0 : Int), (0 : Int), (0 : Int), (0 : Int), (0 : Int), []), (0 : Int)))))))))))))
theorem q50c (K : Nat) (x1 : (List Int)) (x2 : (List Int)) (x3 : BOX) : evFnK (α := STN × Int) (L50c_0 K) 3 50 Tryz.f50.results.toList (codeOf Tryz.f50) ins50c res50c (fun p => (p.1.1, p.1.2.1)) (x1, x2, x3, ()) = implf50c K x1 x2 x3 := by kernel_rfl
noncomputable def e50c (K : Nat) : Ent := ⟨ins50c, res50c, STN × Int, fun x => implf50c K x.1 x.2.1 x.2.2.1, fun _ => (fun y => ((y.1, y.2, ()), (()))), false⟩
theorem e50c_ok (K : Nat) : EntOk Tryz.prog 50 (e50c K) := entOk_k (ins := ins50c) (rs := res50c) (α := STN × Int) (lib50c_0 K) (d := 3) Tryz.func50 rfl (by kernel_rfl) (by kernel_rfl) (by kernel_rfl) (fun x => implf50c K x.1 x.2.1 x.2.2.1) (fun p => (p.1.1, p.1.2.1)) (fun y => ((y.1, y.2, ()), (()))) (fun _ => rfl) (fun x => q50c K x.1 x.2.1 x.2.2.1)

end Go.Proofs.YtbpjodikknbcoaaGreatDoor
