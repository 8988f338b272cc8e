/- What the functions compute: printed by a program of this claim's author. -/
import Derived.Test.YtdgibokmaannjaaF2
set_option maxRecDepth 100000
set_option linter.unusedVariables false
set_option linter.unusedSimpArgs false
namespace Go.Proofs.Ytdgibokmaannjaa
open Go Go.Pv

/-! diaphone/echo.Heard -/
abbrev ins48 : Fs := [(.dat (.sl (.int .i64)), false), (.dat (.int .i64), false)]
abbrev res48 : Sh := .cons (.own (.int .i64)) (.cons (.dat (.int .i64)) (.un))
theorem lp48 : loopsIn (codeOf Try.f48) 0 = [(0, loopOf 0 (codeOf Try.f48))] := by kernel_rfl
noncomputable def L48_0 (K : Nat) : Lib := mkLib ti [(32, [e32 K]), (61, [e61 K]), (81, [e81 K])] [] 48 []
theorem lib48_0 (K : Nat) : LibOk Try.prog (L48_0 K) := libOk_mk (ents := [(32, [e32 K]), (61, [e61 K]), (81, [e81 K])]) (bodies := []) (loops := []) order tiOk ⟨one_ent (e32_ok K), one_ent (e61_ok K), one_ent (e81_ok K), trivial⟩ trivial Try.func48 rfl lp48 ⟨no_lent, trivial⟩
abbrev i48_0 : Fs := [(.dat (.int Go.IntKind.i64), false), (.own (.int .i64), true), (.dat (.sl (.int Go.IntKind.i64)), false), (.dat (.int Go.IntKind.i64), false), (.dat (.int Go.IntKind.i64), true)]
noncomputable def implb48_0 (K : Nat) (rc : Int → (List Int) → (List Int) → Int → Int → Option ((List Int) × Int × Unit)) (x1 : Int) (x2 : (List Int)) (x3 : (List Int)) (x4 : Int) (x5 : Int) : Option ((List Int) × Int × Unit) :=
  (bif decide (x5 < x4) then (if (0 : Int) ≤ x5 ∧ x5 < (↑x3.length : Int) then (if (x2.length + ((List.replicate 1 ((0 : Int))).set 0 (IntKind.i64.wrap ((2 : Int) * max (IntKind.i64.wrap (x3.getD x5.toNat ((0 : Int)) - x1)) (IntKind.i64.wrap (x1 - x3.getD x5.toNat ((0 : Int))))))).length) * 8 ≤ 140737488355328 then (rc x1 (x2 ++ (List.replicate 1 ((0 : Int))).set 0 (IntKind.i64.wrap ((2 : Int) * max (IntKind.i64.wrap (x3.getD x5.toNat ((0 : Int)) - x1)) (IntKind.i64.wrap (x1 - x3.getD x5.toNat ((0 : Int))))))) x3 x4 (IntKind.i64.wrap (x5 + (1 : Int)))) else none) else none) else some ((x2, x5, ())))
noncomputable def impll48_0 (K : Nat) : Nat → Int → (List Int) → (List Int) → Int → Int → Option ((List Int) × Int × Unit)
  | 0, _, _, _, _, _ => none
  | k + 1, x1, x2, x3, x4, x5 => implb48_0 K (impll48_0 K k) x1 x2 x3 x4 x5
noncomputable def n48_0 (K : Nat) : Lent := ⟨[1, 7, 18, 19, 20], i48_0, [21, 22, 23, 9, 24, 25, 26, 27, 28, 29, 30, 31, 32, 33, 34, 35], [0], false, res48, fun x => impll48_0 K K x.1 x.2.1 x.2.2.1 x.2.2.2.1 x.2.2.2.2.1, [], none⟩
theorem q48_0 (K : Nat) (rc : Int → (List Int) → (List Int) → Int → Int → Option ((List Int) × Int × Unit)) (x1 : Int) (x2 : (List Int)) (x3 : (List Int)) (x4 : Int) (x5 : Int) : evLoop (L48_0 K) 3 48 Try.f48.results.toList (loopOf 0 (codeOf Try.f48)) 0 [1, 7, 18, 19, 20] [] i48_0 [0] false res48 (fun x => rc x.1 x.2.1 x.2.2.1 x.2.2.2.1 x.2.2.2.2.1) (x1, x2, x3, x4, x5, ()) = implb48_0 K rc x1 x2 x3 x4 x5 := by kernel_rfl
theorem lp48_0 : loopsIn (loopOf 0 (codeOf Try.f48)) 0 = [] := by kernel_rfl
theorem n48_0_ok (K : Nat) : LentOk Try.prog Try.f48 (loopOf 0 (codeOf Try.f48)) (n48_0 K) := lentOk_k (slots := [1, 7, 18, 19, 20]) (ali := []) (ins := i48_0) (writes := [21, 22, 23, 9, 24, 25, 26, 27, 28, 29, 30, 31, 32, 33, 34, 35]) (exits := [0]) (rets := false) (rs := res48) (d := 3) (lib48_0 K) lp48_0 trivial (by kernel_rfl) (by kernel_rfl) (by kernel_rfl) (by kernel_rfl) (by kernel_rfl) (fun k x => impll48_0 K k x.1 x.2.1 x.2.2.1 x.2.2.2.1 x.2.2.2.2.1) (fun _ => rfl) (fun k x => q48_0 K (impll48_0 K k) x.1 x.2.1 x.2.2.1 x.2.2.2.1 x.2.2.2.2.1) K
noncomputable def L48_1 (K : Nat) : Lib := mkLib ti [(32, [e32 K]), (61, [e61 K]), (81, [e81 K])] [] 48 [(0, [n48_0 K])]
theorem lib48_1 (K : Nat) : LibOk Try.prog (L48_1 K) := libOk_mk (ents := [(32, [e32 K]), (61, [e61 K]), (81, [e81 K])]) (bodies := []) (loops := [(0, [n48_0 K])]) order tiOk ⟨one_ent (e32_ok K), one_ent (e61_ok K), one_ent (e81_ok K), trivial⟩ trivial Try.func48 rfl lp48 ⟨one_lent (n48_0_ok K), trivial⟩
noncomputable def implf48 (K : Nat) (x1 : (List Int)) (x2 : Int) : Option ((List Int) × Int) :=
  (ob (implf32 K x1) fun y1 => (bif y1 != (0 : Int) then some (([], y1)) else (ob (implf61 K x2 (-1000 : Int) ((1000 : Int))) fun y2 => (bif !y2 then some (([], (1 : Int))) else (ob (impll48_0 K K x2 [] x1 ((↑x1.length : Int)) ((0 : Int))) fun y3 => (ob (implf81 K y3.1) fun y4 => some ((y4, (0 : Int)))))))))
theorem q48 (K : Nat) (x1 : (List Int)) (x2 : Int) : evFnK (α := (List Int) × Int) (L48_1 K) 3 48 Try.f48.results.toList (codeOf Try.f48) ins48 res48 (fun p => (p.1.1, p.1.2.1)) (x1, x2, ()) = implf48 K x1 x2 := by kernel_rfl
noncomputable def e48 (K : Nat) : Ent := ⟨ins48, res48, (List Int) × Int, fun x => implf48 K x.1 x.2.1, fun _ => (fun y => ((y.1, y.2, ()), (()))), false⟩
theorem e48_ok (K : Nat) : EntOk Try.prog 48 (e48 K) := entOk_k (ins := ins48) (rs := res48) (α := (List Int) × Int) (lib48_1 K) (d := 3) Try.func48 rfl (by kernel_rfl) (by kernel_rfl) (by kernel_rfl) (fun x => implf48 K x.1 x.2.1) (fun p => (p.1.1, p.1.2.1)) (fun y => ((y.1, y.2, ()), (()))) (fun _ => rfl) (fun x => q48 K x.1 x.2.1)

/-! diaphone/echo.With -/
abbrev ins52 : Fs := [(.dat (.sl (.int .i64)), false), (.dat (.int .i64), false)]
abbrev res52 : Sh := .cons (.dat (.sl (.int .i64))) (.cons (.dat (.int .i64)) (.un))
theorem lp52 : loopsIn (codeOf Try.f52) 0 = [] := by kernel_rfl
noncomputable def L52_0 (K : Nat) : Lib := mkLib ti [(32, [e32 K]), (83, [e83 K]), (84, [e84 K]), (85, [e85 K]), (86, [e86 K])] [] 52 []
theorem lib52_0 (K : Nat) : LibOk Try.prog (L52_0 K) := libOk_mk (ents := [(32, [e32 K]), (83, [e83 K]), (84, [e84 K]), (85, [e85 K]), (86, [e86 K])]) (bodies := []) (loops := []) order tiOk ⟨one_ent (e32_ok K), one_ent (e83_ok K), one_ent (e84_ok K), one_ent (e85_ok K), one_ent (e86_ok K), trivial⟩ trivial Try.func52 rfl lp52 trivial
noncomputable def implf52 (K : Nat) (x1 : (List Int)) (x2 : Int) : Option ((List Int) × Int) :=
  (ob (implf32 K x1) fun y1 => (bif y1 != (0 : Int) then some (([], y1)) else (ob (implf84 K x1 x2) fun y2 => (bif y2.2 then some (([], (5 : Int))) else (ob (implf83 K x1) fun y3 => (ob (implf86 K y3 y2.1 ((List.replicate 1 ((0 : Int))).set 0 x2)) fun y4 => (ob (implf85 K y4) fun y5 => some ((y5.1, y5.2)))))))))
theorem q52 (K : Nat) (x1 : (List Int)) (x2 : Int) : evFnK (α := (List Int) × Int) (L52_0 K) 3 52 Try.f52.results.toList (codeOf Try.f52) ins52 res52 (fun p => (p.1.1, p.1.2.1)) (x1, x2, ()) = implf52 K x1 x2 := by kernel_rfl
noncomputable def e52 (K : Nat) : Ent := ⟨ins52, res52, (List Int) × Int, fun x => implf52 K x.1 x.2.1, fun _ => (fun y => ((y.1, y.2, ()), (()))), false⟩
theorem e52_ok (K : Nat) : EntOk Try.prog 52 (e52 K) := entOk_k (ins := ins52) (rs := res52) (α := (List Int) × Int) (lib52_0 K) (d := 3) Try.func52 rfl (by kernel_rfl) (by kernel_rfl) (by kernel_rfl) (fun x => implf52 K x.1 x.2.1) (fun p => (p.1.1, p.1.2.1)) (fun y => ((y.1, y.2, ()), (()))) (fun _ => rfl) (fun x => q52 K x.1 x.2.1)

end Go.Proofs.Ytdgibokmaannjaa
