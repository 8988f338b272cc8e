/- What the functions compute: printed by a program of this claim's author. -/
import Derived.Test.YthdmngalhppkcaaBase
set_option maxRecDepth 100000
set_option linter.unusedVariables false
namespace Go.Proofs.Ythdmngalhppkcaa
open Go Go.Pv

/-! diaphone/diaphonelaw08.Long -/
abbrev ins19 : Fs := [(.dat (.pr (.sl (.arr 2 (.int .i64))) (.sl (.int .i64))), false), (.dat (.sl (.sl (.int .i64))), false)]
abbrev res19 : Sh := .dat (.bool)
theorem lp19 : loopsIn (codeOf Try.f19) 0 = [(0, loopOf 0 (codeOf Try.f19))] := by kernel_rfl
noncomputable def L19_0 (K : Nat) : Lib := mkLib ti [] [] 19 []
theorem lib19_0 (K : Nat) : LibOk Try.prog (L19_0 K) := libOk_mk (ents := []) (bodies := []) (loops := []) order tiOk trivial trivial Try.func19 rfl lp19 ⟨no_lent, trivial⟩
abbrev i19_0 : Fs := [(.dat (.sl (.sl (.int Go.IntKind.i64))), false), (.box (.dat (.pr (.sl (.arr 2 (.int Go.IntKind.i64))) (.sl (.int Go.IntKind.i64)))), false), (.dat (.int Go.IntKind.i64), true)]
noncomputable def implb19_0 (K : Nat) (rc : (List (List Int)) → ((List (List Int)) × (List Int)) → Int → Option (Sum (Int × Unit) Bool)) (x1 : (List (List Int))) (x2 : ((List (List Int)) × (List Int))) (x3 : Int) : Option (Sum (Int × Unit) Bool) :=
  (bif decide (x3 < (↑x1.length : Int)) then (if (0 : Int) ≤ x3 ∧ x3 < (↑x1.length : Int) then (bif decide ((↑(x1.getD x3.toNat []).length : Int) > (100 : Int)) then some (Sum.inr true) else (rc x1 x2 (IntKind.i64.wrap (x3 + (1 : Int))))) else none) else some (Sum.inl (x3, ())))
noncomputable def impll19_0 (K : Nat) : Nat → (List (List Int)) → ((List (List Int)) × (List Int)) → Int → Option (Sum (Int × Unit) Bool)
  | 0, _, _, _ => none
  | k + 1, x1, x2, x3 => implb19_0 K (impll19_0 K k) x1 x2 x3
noncomputable def n19_0 (K : Nat) : Lent := ⟨[1, 2, 5], i19_0, [6, 7, 8, 9, 12, 13, 14, 15, 16, 17, 4, 10, 11], [0], true, res19, fun x => impll19_0 K K x.1 x.2.1 x.2.2.1⟩
theorem q19_0 (K : Nat) (rc : (List (List Int)) → ((List (List Int)) × (List Int)) → Int → Option (Sum (Int × Unit) Bool)) (x1 : (List (List Int))) (x2 : ((List (List Int)) × (List Int))) (x3 : Int) : evLoop (L19_0 K) 3 19 Try.f19.results.toList (loopOf 0 (codeOf Try.f19)) 0 [1, 2, 5] i19_0 [0] true res19 (fun x => rc x.1 x.2.1 x.2.2.1) (x1, x2, x3, ()) = implb19_0 K rc x1 x2 x3 := by kernel_rfl
theorem lp19_0 : loopsIn (loopOf 0 (codeOf Try.f19)) 0 = [] := by kernel_rfl
theorem n19_0_ok (K : Nat) : LentOk Try.prog Try.f19 (loopOf 0 (codeOf Try.f19)) (n19_0 K) := lentOk_k (slots := [1, 2, 5]) (ins := i19_0) (writes := [6, 7, 8, 9, 12, 13, 14, 15, 16, 17, 4, 10, 11]) (exits := [0]) (rets := true) (rs := res19) (lib19_0 K) lp19_0 trivial (by kernel_rfl) (by kernel_rfl) (by kernel_rfl) (by kernel_rfl) (fun k x => impll19_0 K k x.1 x.2.1 x.2.2.1) (fun _ => rfl) (fun k x => q19_0 K (impll19_0 K k) x.1 x.2.1 x.2.2.1) K
noncomputable def L19_1 (K : Nat) : Lib := mkLib ti [] [] 19 [(0, [n19_0 K])]
theorem lib19_1 (K : Nat) : LibOk Try.prog (L19_1 K) := libOk_mk (ents := []) (bodies := []) (loops := [(0, [n19_0 K])]) order tiOk trivial trivial Try.func19 rfl lp19 ⟨one_lent (n19_0_ok K), trivial⟩
noncomputable def implf19 (K : Nat) (x1 : ((List (List Int)) × (List Int))) (x2 : (List (List Int))) : Option (Bool) :=
  (ob (impll19_0 K K x2 x1 ((0 : Int))) fun y1 => (match y1 with | .inl y2 => (bif decide ((↑x1.1.length : Int) > (50 : Int)) then some (true) else some (decide ((↑x1.2.length : Int) > (50 : Int)))) | .inr y2 => some (y2)))
theorem q19 (K : Nat) (x1 : ((List (List Int)) × (List Int))) (x2 : (List (List Int))) : evFnK (α := Bool) (L19_1 K) 3 19 Try.f19.results.toList (codeOf Try.f19) ins19 res19 (fun p => p.1) (x1, x2, ()) = implf19 K x1 x2 := by kernel_rfl
noncomputable def e19 (K : Nat) : Ent := ⟨ins19, res19, Bool, fun x => implf19 K x.1 x.2.1, fun _ => (fun y => (y, (())))⟩
theorem e19_ok (K : Nat) : EntOk Try.prog 19 (e19 K) := entOk_k (ins := ins19) (rs := res19) (α := Bool) (lib19_1 K) (d := 3) Try.func19 rfl (by kernel_rfl) (by kernel_rfl) (by kernel_rfl) (fun x => implf19 K x.1 x.2.1) (fun p => p.1) (fun y => (y, (()))) (fun _ => rfl) (fun x => q19 K x.1 x.2.1)

/-! diaphone/relay.within -/
abbrev ins61 : Fs := [(.dat (.int .i64), false), (.dat (.int .i64), false), (.dat (.int .i64), false)]
abbrev res61 : Sh := .dat (.bool)
theorem lp61 : loopsIn (codeOf Try.f61) 0 = [] := by kernel_rfl
noncomputable def L61_0 (K : Nat) : Lib := mkLib ti [] [] 61 []
theorem lib61_0 (K : Nat) : LibOk Try.prog (L61_0 K) := libOk_mk (ents := []) (bodies := []) (loops := []) order tiOk trivial trivial Try.func61 rfl lp61 trivial
noncomputable def implf61 (K : Nat) (x1 : Int) (x2 : Int) (x3 : Int) : Option (Bool) :=
  (bif decide (x2 ≤ x1) then some (decide (x1 ≤ x3)) else some (false))
theorem q61 (K : Nat) (x1 : Int) (x2 : Int) (x3 : Int) : evFnK (α := Bool) (L61_0 K) 3 61 Try.f61.results.toList (codeOf Try.f61) ins61 res61 (fun p => p.1) (x1, x2, x3, ()) = implf61 K x1 x2 x3 := by kernel_rfl
noncomputable def e61 (K : Nat) : Ent := ⟨ins61, res61, Bool, fun x => implf61 K x.1 x.2.1 x.2.2.1, fun _ => (fun y => (y, (())))⟩
theorem e61_ok (K : Nat) : EntOk Try.prog 61 (e61 K) := entOk_k (ins := ins61) (rs := res61) (α := Bool) (lib61_0 K) (d := 3) Try.func61 rfl (by kernel_rfl) (by kernel_rfl) (by kernel_rfl) (fun x => implf61 K x.1 x.2.1 x.2.2.1) (fun p => p.1) (fun y => (y, (()))) (fun _ => rfl) (fun x => q61 K x.1 x.2.1 x.2.2.1)

/-! diaphone/relay.Validate -/
abbrev ins30 : Fs := [(.dat (.pr (.sl (.arr 2 (.int .i64))) (.sl (.int .i64))), false)]
abbrev res30 : Sh := .dat (.int .i64)
theorem lp30 : loopsIn (codeOf Try.f30) 0 = [(0, loopOf 0 (codeOf Try.f30))] := by kernel_rfl
noncomputable def L30_0 (K : Nat) : Lib := mkLib ti [(61, [e61 K])] [] 30 []
theorem lib30_0 (K : Nat) : LibOk Try.prog (L30_0 K) := libOk_mk (ents := [(61, [e61 K])]) (bodies := []) (loops := []) order tiOk ⟨one_ent (e61_ok K), trivial⟩ trivial Try.func30 rfl lp30 ⟨no_lent, trivial⟩
abbrev i30_0 : Fs := [(.box (.dat (.pr (.sl (.arr 2 (.int Go.IntKind.i64))) (.sl (.int Go.IntKind.i64)))), false), (.dat (.sl (.arr 2 (.int Go.IntKind.i64))), false), (.dat (.int Go.IntKind.i64), false), (.dat (.int Go.IntKind.i64), true)]
noncomputable def implb30_0 (K : Nat) (rc : ((List (List Int)) × (List Int)) → (List (List Int)) → Int → Int → Option (Sum (Int × Unit) Int)) (x1 : ((List (List Int)) × (List Int))) (x2 : (List (List Int))) (x3 : Int) (x4 : Int) : Option (Sum (Int × Unit) Int) :=
  (bif decide (x4 < x3) then (if (0 : Int) ≤ x4 ∧ x4 < (↑x2.length : Int) then (ob (implf61 K ((x2.getD x4.toNat (List.replicate 2 ((0 : Int)))).getD (0) ((0 : Int))) ((0 : Int)) (IntKind.i64.wrap ((↑x1.1.length : Int) - (1 : Int)))) fun y1 => (bif !y1 then some (Sum.inr ((1 : Int))) else (ob (implf61 K ((x2.getD x4.toNat (List.replicate 2 ((0 : Int)))).getD (1) ((0 : Int))) ((0 : Int)) (IntKind.i64.wrap ((↑x1.1.length : Int) - (1 : Int)))) fun y2 => (bif !y2 then some (Sum.inr ((1 : Int))) else (if (0 : Int) ≤ x4 ∧ x4 < (↑x1.2.length : Int) then (ob (implf61 K (x1.2.getD x4.toNat ((0 : Int))) ((0 : Int)) ((3 : Int))) fun y3 => (bif !y3 then some (Sum.inr ((1 : Int))) else (rc x1 x2 x3 (IntKind.i64.wrap (x4 + (1 : Int)))))) else none))))) else none) else some (Sum.inl (x4, ())))
noncomputable def impll30_0 (K : Nat) : Nat → ((List (List Int)) × (List Int)) → (List (List Int)) → Int → Int → Option (Sum (Int × Unit) Int)
  | 0, _, _, _, _ => none
  | k + 1, x1, x2, x3, x4 => implb30_0 K (impll30_0 K k) x1 x2 x3 x4
noncomputable def n30_0 (K : Nat) : Lent := ⟨[1, 20, 21, 22], i30_0, [23, 24, 25, 26, 4, 3, 27, 28, 29, 30, 31, 32, 33, 34, 35, 36, 37, 38, 39, 40, 41, 42, 43, 44, 45, 46, 47, 48, 49, 50, 51, 52, 53, 2, 54], [0], true, res30, fun x => impll30_0 K K x.1 x.2.1 x.2.2.1 x.2.2.2.1⟩
theorem q30_0 (K : Nat) (rc : ((List (List Int)) × (List Int)) → (List (List Int)) → Int → Int → Option (Sum (Int × Unit) Int)) (x1 : ((List (List Int)) × (List Int))) (x2 : (List (List Int))) (x3 : Int) (x4 : Int) : evLoop (L30_0 K) 3 30 Try.f30.results.toList (loopOf 0 (codeOf Try.f30)) 0 [1, 20, 21, 22] i30_0 [0] true res30 (fun x => rc x.1 x.2.1 x.2.2.1 x.2.2.2.1) (x1, x2, x3, x4, ()) = implb30_0 K rc x1 x2 x3 x4 := by kernel_rfl
theorem lp30_0 : loopsIn (loopOf 0 (codeOf Try.f30)) 0 = [] := by kernel_rfl
theorem n30_0_ok (K : Nat) : LentOk Try.prog Try.f30 (loopOf 0 (codeOf Try.f30)) (n30_0 K) := lentOk_k (slots := [1, 20, 21, 22]) (ins := i30_0) (writes := [23, 24, 25, 26, 4, 3, 27, 28, 29, 30, 31, 32, 33, 34, 35, 36, 37, 38, 39, 40, 41, 42, 43, 44, 45, 46, 47, 48, 49, 50, 51, 52, 53, 2, 54]) (exits := [0]) (rets := true) (rs := res30) (lib30_0 K) lp30_0 trivial (by kernel_rfl) (by kernel_rfl) (by kernel_rfl) (by kernel_rfl) (fun k x => impll30_0 K k x.1 x.2.1 x.2.2.1 x.2.2.2.1) (fun _ => rfl) (fun k x => q30_0 K (impll30_0 K k) x.1 x.2.1 x.2.2.1 x.2.2.2.1) K
noncomputable def L30_1 (K : Nat) : Lib := mkLib ti [(61, [e61 K])] [] 30 [(0, [n30_0 K])]
theorem lib30_1 (K : Nat) : LibOk Try.prog (L30_1 K) := libOk_mk (ents := [(61, [e61 K])]) (bodies := []) (loops := [(0, [n30_0 K])]) order tiOk ⟨one_ent (e61_ok K), trivial⟩ trivial Try.func30 rfl lp30 ⟨one_lent (n30_0_ok K), trivial⟩
noncomputable def implf30 (K : Nat) (x1 : ((List (List Int)) × (List Int))) : Option (Int) :=
  (ob (implf61 K ((↑x1.1.length : Int)) ((1 : Int)) ((6 : Int))) fun y1 => (bif !y1 then some ((1 : Int)) else (bif (↑x1.2.length : Int) != (↑x1.1.length : Int) then some ((1 : Int)) else (ob (impll30_0 K K x1 x1.1 ((↑x1.1.length : Int)) ((0 : Int))) fun y2 => (match y2 with | .inl y3 => some ((0 : Int)) | .inr y3 => some (y3))))))
theorem q30 (K : Nat) (x1 : ((List (List Int)) × (List Int))) : evFnK (α := Int) (L30_1 K) 3 30 Try.f30.results.toList (codeOf Try.f30) ins30 res30 (fun p => p.1) (x1, ()) = implf30 K x1 := by kernel_rfl
noncomputable def e30 (K : Nat) : Ent := ⟨ins30, res30, Int, fun x => implf30 K x.1, fun _ => (fun y => (y, (())))⟩
theorem e30_ok (K : Nat) : EntOk Try.prog 30 (e30 K) := entOk_k (ins := ins30) (rs := res30) (α := Int) (lib30_1 K) (d := 3) Try.func30 rfl (by kernel_rfl) (by kernel_rfl) (by kernel_rfl) (fun x => implf30 K x.1) (fun p => p.1) (fun y => (y, (()))) (fun _ => rfl) (fun x => q30 K x.1)

/-! slices.Equal[[]int,int] -/
abbrev ins82 : Fs := [(.dat (.sl (.int .i64)), false), (.dat (.sl (.int .i64)), false)]
abbrev res82 : Sh := .dat (.bool)
theorem lp82 : loopsIn (codeOf Try.f82) 0 = [(0, loopOf 0 (codeOf Try.f82))] := by kernel_rfl
noncomputable def L82_0 (K : Nat) : Lib := mkLib ti [] [] 82 []
theorem lib82_0 (K : Nat) : LibOk Try.prog (L82_0 K) := libOk_mk (ents := []) (bodies := []) (loops := []) order tiOk trivial trivial Try.func82 rfl lp82 ⟨no_lent, trivial⟩
abbrev i82_0 : Fs := [(.dat (.sl (.int Go.IntKind.i64)), false), (.dat (.sl (.int Go.IntKind.i64)), false), (.dat (.int Go.IntKind.i64), false), (.dat (.int Go.IntKind.i64), true)]
noncomputable def implb82_0 (K : Nat) (rc : (List Int) → (List Int) → Int → Int → Option (Sum (Int × Unit) Bool)) (x1 : (List Int)) (x2 : (List Int)) (x3 : Int) (x4 : Int) : Option (Sum (Int × Unit) Bool) :=
  (bif decide (x4 < x3) then (if (0 : Int) ≤ x4 ∧ x4 < (↑x1.length : Int) then (if (0 : Int) ≤ x4 ∧ x4 < (↑x2.length : Int) then (bif x1.getD x4.toNat ((0 : Int)) != x2.getD x4.toNat ((0 : Int)) then some (Sum.inr false) else (rc x1 x2 x3 (IntKind.i64.wrap (x4 + (1 : Int))))) else none) else none) else some (Sum.inl (x4, ())))
noncomputable def impll82_0 (K : Nat) : Nat → (List Int) → (List Int) → Int → Int → Option (Sum (Int × Unit) Bool)
  | 0, _, _, _, _ => none
  | k + 1, x1, x2, x3, x4 => implb82_0 K (impll82_0 K k) x1 x2 x3 x4
noncomputable def n82_0 (K : Nat) : Lent := ⟨[0, 1, 12, 13], i82_0, [14, 15, 5, 16, 17, 18, 19, 20, 21, 22, 23, 24, 4, 25], [0], true, res82, fun x => impll82_0 K K x.1 x.2.1 x.2.2.1 x.2.2.2.1⟩
theorem q82_0 (K : Nat) (rc : (List Int) → (List Int) → Int → Int → Option (Sum (Int × Unit) Bool)) (x1 : (List Int)) (x2 : (List Int)) (x3 : Int) (x4 : Int) : evLoop (L82_0 K) 3 82 Try.f82.results.toList (loopOf 0 (codeOf Try.f82)) 0 [0, 1, 12, 13] i82_0 [0] true res82 (fun x => rc x.1 x.2.1 x.2.2.1 x.2.2.2.1) (x1, x2, x3, x4, ()) = implb82_0 K rc x1 x2 x3 x4 := by kernel_rfl
theorem lp82_0 : loopsIn (loopOf 0 (codeOf Try.f82)) 0 = [] := by kernel_rfl
theorem n82_0_ok (K : Nat) : LentOk Try.prog Try.f82 (loopOf 0 (codeOf Try.f82)) (n82_0 K) := lentOk_k (slots := [0, 1, 12, 13]) (ins := i82_0) (writes := [14, 15, 5, 16, 17, 18, 19, 20, 21, 22, 23, 24, 4, 25]) (exits := [0]) (rets := true) (rs := res82) (lib82_0 K) lp82_0 trivial (by kernel_rfl) (by kernel_rfl) (by kernel_rfl) (by kernel_rfl) (fun k x => impll82_0 K k x.1 x.2.1 x.2.2.1 x.2.2.2.1) (fun _ => rfl) (fun k x => q82_0 K (impll82_0 K k) x.1 x.2.1 x.2.2.1 x.2.2.2.1) K
noncomputable def L82_1 (K : Nat) : Lib := mkLib ti [] [] 82 [(0, [n82_0 K])]
theorem lib82_1 (K : Nat) : LibOk Try.prog (L82_1 K) := libOk_mk (ents := []) (bodies := []) (loops := [(0, [n82_0 K])]) order tiOk trivial trivial Try.func82 rfl lp82 ⟨one_lent (n82_0_ok K), trivial⟩
noncomputable def implf82 (K : Nat) (x1 : (List Int)) (x2 : (List Int)) : Option (Bool) :=
  (bif (↑x1.length : Int) != (↑x2.length : Int) then some (false) else (ob (impll82_0 K K x1 x2 ((↑x1.length : Int)) ((0 : Int))) fun y1 => (match y1 with | .inl y2 => some (true) | .inr y2 => some (y2))))
theorem q82 (K : Nat) (x1 : (List Int)) (x2 : (List Int)) : evFnK (α := Bool) (L82_1 K) 3 82 Try.f82.results.toList (codeOf Try.f82) ins82 res82 (fun p => p.1) (x1, x2, ()) = implf82 K x1 x2 := by kernel_rfl
noncomputable def e82 (K : Nat) : Ent := ⟨ins82, res82, Bool, fun x => implf82 K x.1 x.2.1, fun _ => (fun y => (y, (())))⟩
theorem e82_ok (K : Nat) : EntOk Try.prog 82 (e82 K) := entOk_k (ins := ins82) (rs := res82) (α := Bool) (lib82_1 K) (d := 3) Try.func82 rfl (by kernel_rfl) (by kernel_rfl) (by kernel_rfl) (fun x => implf82 K x.1 x.2.1) (fun p => p.1) (fun y => (y, (()))) (fun _ => rfl) (fun x => q82 K x.1 x.2.1)

/-! diaphone/relay.kinds -/
abbrev ins59 : Fs := [(.dat (.pr (.sl (.arr 2 (.int .i64))) (.sl (.int .i64))), false)]
abbrev res59 : Sh := .own (.int .i64)
theorem lp59 : loopsIn (codeOf Try.f59) 0 = [(0, loopOf 0 (codeOf Try.f59)), (2, loopOf 2 (codeOf Try.f59)), (4, loopOf 4 (codeOf Try.f59)), (6, loopOf 6 (codeOf Try.f59))] := by kernel_rfl
noncomputable def L59_0 (K : Nat) : Lib := mkLib ti [(82, [e82 K])] [(85, Try.f85), (94, Try.f94), (95, Try.f95), (96, Try.f96)] 59 []
theorem lib59_0 (K : Nat) : LibOk Try.prog (L59_0 K) := libOk_mk (ents := [(82, [e82 K])]) (bodies := [(85, Try.f85), (94, Try.f94), (95, Try.f95), (96, Try.f96)]) (loops := []) order tiOk ⟨one_ent (e82_ok K), trivial⟩ ⟨bod85, bod94, bod95, bod96, trivial⟩ Try.func59 rfl lp59 ⟨no_lent, no_lent, no_lent, no_lent, trivial⟩
abbrev i59_0 : Fs := [(.box (.dat (.pr (.sl (.arr 2 (.int Go.IntKind.i64))) (.sl (.int Go.IntKind.i64)))), false), (.own (.int Go.IntKind.i64), true)]
abbrev i59_2 : Fs := [(.box (.dat (.pr (.sl (.arr 2 (.int Go.IntKind.i64))) (.sl (.int Go.IntKind.i64)))), false), (.own (.int Go.IntKind.i64), false), (.own (.int Go.IntKind.i64), true), (.dat (.int Go.IntKind.i64), false), (.dat (.int Go.IntKind.i64), true)]
abbrev i59_4 : Fs := [(.box (.dat (.pr (.sl (.arr 2 (.int Go.IntKind.i64))) (.sl (.int Go.IntKind.i64)))), false), (.own (.int Go.IntKind.i64), false), (.own (.int Go.IntKind.i64), true), (.dat (.int Go.IntKind.i64), false), (.dat (.int Go.IntKind.i64), false), (.dat (.int Go.IntKind.i64), false), (.dat (.int Go.IntKind.i64), false), (.dat (.int Go.IntKind.i64), true)]
noncomputable def implb59_4 (K : Nat) (rc : ((List (List Int)) × (List Int)) → (List Int) → (List Int) → Int → Int → Int → Int → Int → Option ((List Int) × Int × Unit)) (x1 : ((List (List Int)) × (List Int))) (x2 : (List Int)) (x3 : (List Int)) (x4 : Int) (x5 : Int) (x6 : Int) (x7 : Int) (x8 : Int) : Option ((List Int) × Int × Unit) :=
  (bif decide (x8 < x7) then (if (0 : Int) ≤ x4 ∧ x4 < (↑x1.2.length : Int) then (if (0 : Int) ≤ x8 ∧ x8 < (↑x1.2.length : Int) then (bif x1.2.getD x4.toNat ((0 : Int)) == x1.2.getD x8.toNat ((0 : Int)) then (if (0 : Int) ≤ x4 ∧ x4 < (↑x1.1.length : Int) then (if (0 : Int) ≤ (x1.1.getD x4.toNat (List.replicate 2 ((0 : Int)))).getD (0) ((0 : Int)) ∧ (x1.1.getD x4.toNat (List.replicate 2 ((0 : Int)))).getD (0) ((0 : Int)) < (↑x2.length : Int) then (if (0 : Int) ≤ x8 ∧ x8 < (↑x1.1.length : Int) then (if (0 : Int) ≤ (x1.1.getD x8.toNat (List.replicate 2 ((0 : Int)))).getD (0) ((0 : Int)) ∧ (x1.1.getD x8.toNat (List.replicate 2 ((0 : Int)))).getD (0) ((0 : Int)) < (↑x2.length : Int) then (bif x2.getD ((x1.1.getD x4.toNat (List.replicate 2 ((0 : Int)))).getD (0) ((0 : Int))).toNat ((0 : Int)) == x2.getD ((x1.1.getD x8.toNat (List.replicate 2 ((0 : Int)))).getD (0) ((0 : Int))).toNat ((0 : Int)) then (if (0 : Int) ≤ x4 ∧ x4 < (↑x1.1.length : Int) then (if (0 : Int) ≤ (x1.1.getD x4.toNat (List.replicate 2 ((0 : Int)))).getD (1) ((0 : Int)) ∧ (x1.1.getD x4.toNat (List.replicate 2 ((0 : Int)))).getD (1) ((0 : Int)) < (↑x2.length : Int) then (if (0 : Int) ≤ x8 ∧ x8 < (↑x1.1.length : Int) then (if (0 : Int) ≤ (x1.1.getD x8.toNat (List.replicate 2 ((0 : Int)))).getD (1) ((0 : Int)) ∧ (x1.1.getD x8.toNat (List.replicate 2 ((0 : Int)))).getD (1) ((0 : Int)) < (↑x2.length : Int) then (bif x2.getD ((x1.1.getD x4.toNat (List.replicate 2 ((0 : Int)))).getD (1) ((0 : Int))).toNat ((0 : Int)) == x2.getD ((x1.1.getD x8.toNat (List.replicate 2 ((0 : Int)))).getD (1) ((0 : Int))).toNat ((0 : Int)) then (if (0 : Int) ≤ x4 ∧ x4 < (↑x3.length : Int) then some ((x3.set x4.toNat x8, x8, ())) else none) else (rc x1 x2 x3 x4 x5 x6 x7 (IntKind.i64.wrap (x8 + (1 : Int))))) else none) else none) else none) else none) else (rc x1 x2 x3 x4 x5 x6 x7 (IntKind.i64.wrap (x8 + (1 : Int))))) else none) else none) else none) else none) else (rc x1 x2 x3 x4 x5 x6 x7 (IntKind.i64.wrap (x8 + (1 : Int))))) else none) else none) else some ((x3, x8, ())))
noncomputable def impll59_4 (K : Nat) : Nat → ((List (List Int)) × (List Int)) → (List Int) → (List Int) → Int → Int → Int → Int → Int → Option ((List Int) × Int × Unit)
  | 0, _, _, _, _, _, _, _, _ => none
  | k + 1, x1, x2, x3, x4, x5, x6, x7, x8 => implb59_4 K (impll59_4 K k) x1 x2 x3 x4 x5 x6 x7 x8
noncomputable def n59_4 (K : Nat) : Lent := ⟨[1, 3, 4, 5, 19, 20, 27, 28], i59_4, [29, 30, 6, 7, 31, 32, 33, 34, 35, 36, 37, 9, 38, 39, 40, 41, 42, 43, 44, 45, 46, 47, 48, 49, 50, 51, 52, 53, 54, 55, 56, 57, 58], [4], false, res59, fun x => impll59_4 K K x.1 x.2.1 x.2.2.1 x.2.2.2.1 x.2.2.2.2.1 x.2.2.2.2.2.1 x.2.2.2.2.2.2.1 x.2.2.2.2.2.2.2.1⟩
theorem q59_4 (K : Nat) (rc : ((List (List Int)) × (List Int)) → (List Int) → (List Int) → Int → Int → Int → Int → Int → Option ((List Int) × Int × Unit)) (x1 : ((List (List Int)) × (List Int))) (x2 : (List Int)) (x3 : (List Int)) (x4 : Int) (x5 : Int) (x6 : Int) (x7 : Int) (x8 : Int) : evLoop (L59_0 K) 3 59 Try.f59.results.toList (loopOf 4 (codeOf Try.f59)) 4 [1, 3, 4, 5, 19, 20, 27, 28] i59_4 [4] false res59 (fun x => rc x.1 x.2.1 x.2.2.1 x.2.2.2.1 x.2.2.2.2.1 x.2.2.2.2.2.1 x.2.2.2.2.2.2.1 x.2.2.2.2.2.2.2.1) (x1, x2, x3, x4, x5, x6, x7, x8, ()) = implb59_4 K rc x1 x2 x3 x4 x5 x6 x7 x8 := by kernel_rfl
theorem lp59_4 : loopsIn (loopOf 4 (codeOf Try.f59)) 4 = [(6, loopOf 6 (codeOf Try.f59))] := by kernel_rfl
theorem n59_4_ok (K : Nat) : LentOk Try.prog Try.f59 (loopOf 4 (codeOf Try.f59)) (n59_4 K) := lentOk_k (slots := [1, 3, 4, 5, 19, 20, 27, 28]) (ins := i59_4) (writes := [29, 30, 6, 7, 31, 32, 33, 34, 35, 36, 37, 9, 38, 39, 40, 41, 42, 43, 44, 45, 46, 47, 48, 49, 50, 51, 52, 53, 54, 55, 56, 57, 58]) (exits := [4]) (rets := false) (rs := res59) (lib59_0 K) lp59_4 ⟨no_lent, trivial⟩ (by kernel_rfl) (by kernel_rfl) (by kernel_rfl) (by kernel_rfl) (fun k x => impll59_4 K k x.1 x.2.1 x.2.2.1 x.2.2.2.1 x.2.2.2.2.1 x.2.2.2.2.2.1 x.2.2.2.2.2.2.1 x.2.2.2.2.2.2.2.1) (fun _ => rfl) (fun k x => q59_4 K (impll59_4 K k) x.1 x.2.1 x.2.2.1 x.2.2.2.1 x.2.2.2.2.1 x.2.2.2.2.2.1 x.2.2.2.2.2.2.1 x.2.2.2.2.2.2.2.1) K
noncomputable def L59_1 (K : Nat) : Lib := mkLib ti [(82, [e82 K])] [(85, Try.f85), (94, Try.f94), (95, Try.f95), (96, Try.f96)] 59 [(4, [n59_4 K])]
theorem lib59_1 (K : Nat) : LibOk Try.prog (L59_1 K) := libOk_mk (ents := [(82, [e82 K])]) (bodies := [(85, Try.f85), (94, Try.f94), (95, Try.f95), (96, Try.f96)]) (loops := [(4, [n59_4 K])]) order tiOk ⟨one_ent (e82_ok K), trivial⟩ ⟨bod85, bod94, bod95, bod96, trivial⟩ Try.func59 rfl lp59 ⟨no_lent, no_lent, one_lent (n59_4_ok K), no_lent, trivial⟩
noncomputable def implb59_2 (K : Nat) (rc : ((List (List Int)) × (List Int)) → (List Int) → (List Int) → Int → Int → Option ((List Int) × Int × Unit)) (x1 : ((List (List Int)) × (List Int))) (x2 : (List Int)) (x3 : (List Int)) (x4 : Int) (x5 : Int) : Option ((List Int) × Int × Unit) :=
  (bif decide (x5 < x4) then (if (0 : Int) ≤ x5 ∧ x5 < (↑x3.length : Int) then (ob (impll59_4 K K x1 x2 (x3.set x5.toNat x5) x5 x4 x5 x5 ((0 : Int))) fun y1 => (rc x1 x2 y1.1 x4 (IntKind.i64.wrap (x5 + (1 : Int))))) else none) else some ((x3, x5, ())))
noncomputable def impll59_2 (K : Nat) : Nat → ((List (List Int)) × (List Int)) → (List Int) → (List Int) → Int → Int → Option ((List Int) × Int × Unit)
  | 0, _, _, _, _, _ => none
  | k + 1, x1, x2, x3, x4, x5 => implb59_2 K (impll59_2 K k) x1 x2 x3 x4 x5
noncomputable def n59_2 (K : Nat) : Lent := ⟨[1, 3, 4, 19, 20], i59_2, [21, 22, 5, 23, 24, 25, 26, 27, 28, 29, 30, 6, 7, 31, 32, 33, 34, 35, 36, 37, 9, 38, 39, 40, 41, 42, 43, 44, 45, 46, 47, 48, 49, 50, 51, 52, 53, 54, 55, 56, 57, 58, 59], [2], false, res59, fun x => impll59_2 K K x.1 x.2.1 x.2.2.1 x.2.2.2.1 x.2.2.2.2.1⟩
theorem q59_2 (K : Nat) (rc : ((List (List Int)) × (List Int)) → (List Int) → (List Int) → Int → Int → Option ((List Int) × Int × Unit)) (x1 : ((List (List Int)) × (List Int))) (x2 : (List Int)) (x3 : (List Int)) (x4 : Int) (x5 : Int) : evLoop (L59_1 K) 3 59 Try.f59.results.toList (loopOf 2 (codeOf Try.f59)) 2 [1, 3, 4, 19, 20] i59_2 [2] false res59 (fun x => rc x.1 x.2.1 x.2.2.1 x.2.2.2.1 x.2.2.2.2.1) (x1, x2, x3, x4, x5, ()) = implb59_2 K rc x1 x2 x3 x4 x5 := by kernel_rfl
theorem lp59_2 : loopsIn (loopOf 2 (codeOf Try.f59)) 2 = [(4, loopOf 4 (codeOf Try.f59)), (6, loopOf 6 (codeOf Try.f59))] := by kernel_rfl
theorem n59_2_ok (K : Nat) : LentOk Try.prog Try.f59 (loopOf 2 (codeOf Try.f59)) (n59_2 K) := lentOk_k (slots := [1, 3, 4, 19, 20]) (ins := i59_2) (writes := [21, 22, 5, 23, 24, 25, 26, 27, 28, 29, 30, 6, 7, 31, 32, 33, 34, 35, 36, 37, 9, 38, 39, 40, 41, 42, 43, 44, 45, 46, 47, 48, 49, 50, 51, 52, 53, 54, 55, 56, 57, 58, 59]) (exits := [2]) (rets := false) (rs := res59) (lib59_1 K) lp59_2 ⟨one_lent (n59_4_ok K), no_lent, trivial⟩ (by kernel_rfl) (by kernel_rfl) (by kernel_rfl) (by kernel_rfl) (fun k x => impll59_2 K k x.1 x.2.1 x.2.2.1 x.2.2.2.1 x.2.2.2.2.1) (fun _ => rfl) (fun k x => q59_2 K (impll59_2 K k) x.1 x.2.1 x.2.2.1 x.2.2.2.1 x.2.2.2.2.1) K
noncomputable def L59_2 (K : Nat) : Lib := mkLib ti [(82, [e82 K])] [(85, Try.f85), (94, Try.f94), (95, Try.f95), (96, Try.f96)] 59 [(4, [n59_4 K]), (2, [n59_2 K])]
theorem lib59_2 (K : Nat) : LibOk Try.prog (L59_2 K) := libOk_mk (ents := [(82, [e82 K])]) (bodies := [(85, Try.f85), (94, Try.f94), (95, Try.f95), (96, Try.f96)]) (loops := [(4, [n59_4 K]), (2, [n59_2 K])]) order tiOk ⟨one_ent (e82_ok K), trivial⟩ ⟨bod85, bod94, bod95, bod96, trivial⟩ Try.func59 rfl lp59 ⟨no_lent, one_lent (n59_2_ok K), one_lent (n59_4_ok K), no_lent, trivial⟩
noncomputable def implb59_0 (K : Nat) (rc : ((List (List Int)) × (List Int)) → (List Int) → Option (List Int)) (x1 : ((List (List Int)) × (List Int))) (x2 : (List Int)) : Option (List Int) :=
  (if (0 : Int) ≤ (↑x1.1.length : Int) ∧ (↑x1.1.length : Int) * (8 : Int) ≤ (140737488355328 : Int) then (ob (impll59_2 K K x1 x2 (List.replicate (↑x1.1.length : Int).toNat ((0 : Int))) (Int.ofNat (List.replicate (↑x1.1.length : Int).toNat ((0 : Int))).length) ((0 : Int))) fun y1 => (ob (implf82 K x2 y1.1) fun y2 => (bif y2 then some (x2) else (rc x1 y1.1)))) else none)
noncomputable def impll59_0 (K : Nat) : Nat → ((List (List Int)) × (List Int)) → (List Int) → Option (List Int)
  | 0, _, _ => none
  | k + 1, x1, x2 => implb59_0 K (impll59_0 K k) x1 x2
noncomputable def n59_0 (K : Nat) : Lent := ⟨[1, 3], i59_0, [14, 15, 16, 17, 4, 18, 19, 20, 21, 22, 5, 23, 24, 25, 26, 27, 28, 29, 30, 6, 7, 31, 32, 33, 34, 35, 36, 37, 9, 38, 39, 40, 41, 42, 43, 44, 45, 46, 47, 48, 49, 50, 51, 52, 53, 54, 55, 56, 57, 58, 59, 60, 61, 62, 63, 2, 64], [], true, res59, fun x => impll59_0 K K x.1 x.2.1⟩
theorem q59_0 (K : Nat) (rc : ((List (List Int)) × (List Int)) → (List Int) → Option (List Int)) (x1 : ((List (List Int)) × (List Int))) (x2 : (List Int)) : evLoop (L59_2 K) 3 59 Try.f59.results.toList (loopOf 0 (codeOf Try.f59)) 0 [1, 3] i59_0 [] true res59 (fun x => rc x.1 x.2.1) (x1, x2, ()) = implb59_0 K rc x1 x2 := by kernel_rfl
theorem lp59_0 : loopsIn (loopOf 0 (codeOf Try.f59)) 0 = [(2, loopOf 2 (codeOf Try.f59)), (4, loopOf 4 (codeOf Try.f59)), (6, loopOf 6 (codeOf Try.f59))] := by kernel_rfl
theorem n59_0_ok (K : Nat) : LentOk Try.prog Try.f59 (loopOf 0 (codeOf Try.f59)) (n59_0 K) := lentOk_k (slots := [1, 3]) (ins := i59_0) (writes := [14, 15, 16, 17, 4, 18, 19, 20, 21, 22, 5, 23, 24, 25, 26, 27, 28, 29, 30, 6, 7, 31, 32, 33, 34, 35, 36, 37, 9, 38, 39, 40, 41, 42, 43, 44, 45, 46, 47, 48, 49, 50, 51, 52, 53, 54, 55, 56, 57, 58, 59, 60, 61, 62, 63, 2, 64]) (exits := []) (rets := true) (rs := res59) (lib59_2 K) lp59_0 ⟨one_lent (n59_2_ok K), one_lent (n59_4_ok K), no_lent, trivial⟩ (by kernel_rfl) (by kernel_rfl) (by kernel_rfl) (by kernel_rfl) (fun k x => impll59_0 K k x.1 x.2.1) (fun _ => rfl) (fun k x => q59_0 K (impll59_0 K k) x.1 x.2.1) K
noncomputable def L59_3 (K : Nat) : Lib := mkLib ti [(82, [e82 K])] [(85, Try.f85), (94, Try.f94), (95, Try.f95), (96, Try.f96)] 59 [(4, [n59_4 K]), (2, [n59_2 K]), (0, [n59_0 K])]
theorem lib59_3 (K : Nat) : LibOk Try.prog (L59_3 K) := libOk_mk (ents := [(82, [e82 K])]) (bodies := [(85, Try.f85), (94, Try.f94), (95, Try.f95), (96, Try.f96)]) (loops := [(4, [n59_4 K]), (2, [n59_2 K]), (0, [n59_0 K])]) order tiOk ⟨one_ent (e82_ok K), trivial⟩ ⟨bod85, bod94, bod95, bod96, trivial⟩ Try.func59 rfl lp59 ⟨one_lent (n59_0_ok K), one_lent (n59_2_ok K), one_lent (n59_4_ok K), no_lent, trivial⟩
noncomputable def implf59 (K : Nat) (x1 : ((List (List Int)) × (List Int))) : Option ((List Int)) :=
  (if (0 : Int) ≤ (↑x1.1.length : Int) ∧ (↑x1.1.length : Int) * (8 : Int) ≤ (140737488355328 : Int) then (ob (impll59_0 K K x1 (List.replicate (↑x1.1.length : Int).toNat ((0 : Int)))) fun y1 => some (y1)) else none)
theorem q59 (K : Nat) (x1 : ((List (List Int)) × (List Int))) : evFnK (α := (List Int)) (L59_3 K) 3 59 Try.f59.results.toList (codeOf Try.f59) ins59 res59 (fun p => p.1) (x1, ()) = implf59 K x1 := by kernel_rfl
noncomputable def e59 (K : Nat) : Ent := ⟨ins59, res59, (List Int), fun x => implf59 K x.1, fun _ => (fun y => (y, (())))⟩
theorem e59_ok (K : Nat) : EntOk Try.prog 59 (e59 K) := entOk_k (ins := ins59) (rs := res59) (α := (List Int)) (lib59_3 K) (d := 3) Try.func59 rfl (by kernel_rfl) (by kernel_rfl) (by kernel_rfl) (fun x => implf59 K x.1) (fun p => p.1) (fun y => (y, (()))) (fun _ => rfl) (fun x => q59 K x.1)

/-! diaphone/relay.Kinds -/
abbrev ins21 : Fs := [(.dat (.pr (.sl (.arr 2 (.int .i64))) (.sl (.int .i64))), false)]
abbrev res21 : Sh := .cons (.own (.int .i64)) (.cons (.dat (.int .i64)) (.un))
theorem lp21 : loopsIn (codeOf Try.f21) 0 = [] := by kernel_rfl
noncomputable def L21_0 (K : Nat) : Lib := mkLib ti [(30, [e30 K]), (59, [e59 K])] [] 21 []
theorem lib21_0 (K : Nat) : LibOk Try.prog (L21_0 K) := libOk_mk (ents := [(30, [e30 K]), (59, [e59 K])]) (bodies := []) (loops := []) order tiOk ⟨one_ent (e30_ok K), one_ent (e59_ok K), trivial⟩ trivial Try.func21 rfl lp21 trivial
noncomputable def implf21 (K : Nat) (x1 : ((List (List Int)) × (List Int))) : Option ((List Int) × Int) :=
  (ob (implf30 K x1) fun y1 => (bif y1 != (0 : Int) then some (([], y1)) else (ob (implf59 K x1) fun y2 => some ((y2, (0 : Int))))))
theorem q21 (K : Nat) (x1 : ((List (List Int)) × (List Int))) : evFnK (α := (List Int) × Int) (L21_0 K) 3 21 Try.f21.results.toList (codeOf Try.f21) ins21 res21 (fun p => (p.1.1, p.1.2.1)) (x1, ()) = implf21 K x1 := by kernel_rfl
noncomputable def e21 (K : Nat) : Ent := ⟨ins21, res21, (List Int) × Int, fun x => implf21 K x.1, fun _ => (fun y => ((y.1, y.2, ()), (())))⟩
theorem e21_ok (K : Nat) : EntOk Try.prog 21 (e21 K) := entOk_k (ins := ins21) (rs := res21) (α := (List Int) × Int) (lib21_0 K) (d := 3) Try.func21 rfl (by kernel_rfl) (by kernel_rfl) (by kernel_rfl) (fun x => implf21 K x.1) (fun p => (p.1.1, p.1.2.1)) (fun y => ((y.1, y.2, ()), (()))) (fun _ => rfl) (fun x => q21 K x.1)

/-! diaphone/diaphoneref08.SameInts -/
abbrev ins23 : Fs := [(.dat (.sl (.int .i64)), false), (.dat (.sl (.int .i64)), false)]
abbrev res23 : Sh := .dat (.bool)
theorem lp23 : loopsIn (codeOf Try.f23) 0 = [(0, loopOf 0 (codeOf Try.f23))] := by kernel_rfl
noncomputable def L23_0 (K : Nat) : Lib := mkLib ti [] [] 23 []
theorem lib23_0 (K : Nat) : LibOk Try.prog (L23_0 K) := libOk_mk (ents := []) (bodies := []) (loops := []) order tiOk trivial trivial Try.func23 rfl lp23 ⟨no_lent, trivial⟩
abbrev i23_0 : Fs := [(.dat (.sl (.int Go.IntKind.i64)), false), (.dat (.sl (.int Go.IntKind.i64)), false), (.dat (.int Go.IntKind.i64), true)]
noncomputable def implb23_0 (K : Nat) (rc : (List Int) → (List Int) → Int → Option (Sum (Int × Unit) Bool)) (x1 : (List Int)) (x2 : (List Int)) (x3 : Int) : Option (Sum (Int × Unit) Bool) :=
  (bif decide (x3 < (↑x1.length : Int)) then (if (0 : Int) ≤ x3 ∧ x3 < (↑x1.length : Int) then (if (0 : Int) ≤ x3 ∧ x3 < (↑x2.length : Int) then (bif x1.getD x3.toNat ((0 : Int)) != x2.getD x3.toNat ((0 : Int)) then some (Sum.inr false) else (rc x1 x2 (IntKind.i64.wrap (x3 + (1 : Int))))) else none) else none) else some (Sum.inl (x3, ())))
noncomputable def impll23_0 (K : Nat) : Nat → (List Int) → (List Int) → Int → Option (Sum (Int × Unit) Bool)
  | 0, _, _, _ => none
  | k + 1, x1, x2, x3 => implb23_0 K (impll23_0 K k) x1 x2 x3
noncomputable def n23_0 (K : Nat) : Lent := ⟨[0, 1, 5], i23_0, [11, 12, 13, 14, 17, 18, 19, 20, 21, 22, 23, 24, 25, 4, 15, 16], [0], true, res23, fun x => impll23_0 K K x.1 x.2.1 x.2.2.1⟩
theorem q23_0 (K : Nat) (rc : (List Int) → (List Int) → Int → Option (Sum (Int × Unit) Bool)) (x1 : (List Int)) (x2 : (List Int)) (x3 : Int) : evLoop (L23_0 K) 3 23 Try.f23.results.toList (loopOf 0 (codeOf Try.f23)) 0 [0, 1, 5] i23_0 [0] true res23 (fun x => rc x.1 x.2.1 x.2.2.1) (x1, x2, x3, ()) = implb23_0 K rc x1 x2 x3 := by kernel_rfl
theorem lp23_0 : loopsIn (loopOf 0 (codeOf Try.f23)) 0 = [] := by kernel_rfl
theorem n23_0_ok (K : Nat) : LentOk Try.prog Try.f23 (loopOf 0 (codeOf Try.f23)) (n23_0 K) := lentOk_k (slots := [0, 1, 5]) (ins := i23_0) (writes := [11, 12, 13, 14, 17, 18, 19, 20, 21, 22, 23, 24, 25, 4, 15, 16]) (exits := [0]) (rets := true) (rs := res23) (lib23_0 K) lp23_0 trivial (by kernel_rfl) (by kernel_rfl) (by kernel_rfl) (by kernel_rfl) (fun k x => impll23_0 K k x.1 x.2.1 x.2.2.1) (fun _ => rfl) (fun k x => q23_0 K (impll23_0 K k) x.1 x.2.1 x.2.2.1) K
noncomputable def L23_1 (K : Nat) : Lib := mkLib ti [] [] 23 [(0, [n23_0 K])]
theorem lib23_1 (K : Nat) : LibOk Try.prog (L23_1 K) := libOk_mk (ents := []) (bodies := []) (loops := [(0, [n23_0 K])]) order tiOk trivial trivial Try.func23 rfl lp23 ⟨one_lent (n23_0_ok K), trivial⟩
noncomputable def implf23 (K : Nat) (x1 : (List Int)) (x2 : (List Int)) : Option (Bool) :=
  (bif (↑x1.length : Int) != (↑x2.length : Int) then some (false) else (ob (impll23_0 K K x1 x2 ((0 : Int))) fun y1 => (match y1 with | .inl y2 => some (true) | .inr y2 => some (y2))))
theorem q23 (K : Nat) (x1 : (List Int)) (x2 : (List Int)) : evFnK (α := Bool) (L23_1 K) 3 23 Try.f23.results.toList (codeOf Try.f23) ins23 res23 (fun p => p.1) (x1, x2, ()) = implf23 K x1 x2 := by kernel_rfl
noncomputable def e23 (K : Nat) : Ent := ⟨ins23, res23, Bool, fun x => implf23 K x.1 x.2.1, fun _ => (fun y => (y, (())))⟩
theorem e23_ok (K : Nat) : EntOk Try.prog 23 (e23 K) := entOk_k (ins := ins23) (rs := res23) (α := Bool) (lib23_1 K) (d := 3) Try.func23 rfl (by kernel_rfl) (by kernel_rfl) (by kernel_rfl) (fun x => implf23 K x.1 x.2.1) (fun p => p.1) (fun y => (y, (()))) (fun _ => rfl) (fun x => q23 K x.1 x.2.1)

/-! diaphone/relay.Count -/
abbrev ins24 : Fs := [(.dat (.pr (.sl (.arr 2 (.int .i64))) (.sl (.int .i64))), false), (.dat (.int .i64), false), (.dat (.int .i64), false)]
abbrev res24 : Sh := .cons (.dat (.int .i64)) (.cons (.dat (.int .i64)) (.un))
theorem lp24 : loopsIn (codeOf Try.f24) 0 = [(0, loopOf 0 (codeOf Try.f24)), (2, loopOf 2 (codeOf Try.f24)), (4, loopOf 4 (codeOf Try.f24))] := by kernel_rfl
noncomputable def L24_0 (K : Nat) : Lib := mkLib ti [(30, [e30 K]), (61, [e61 K])] [] 24 []
theorem lib24_0 (K : Nat) : LibOk Try.prog (L24_0 K) := libOk_mk (ents := [(30, [e30 K]), (61, [e61 K])]) (bodies := []) (loops := []) order tiOk ⟨one_ent (e30_ok K), one_ent (e61_ok K), trivial⟩ trivial Try.func24 rfl lp24 ⟨no_lent, no_lent, no_lent, trivial⟩
abbrev i24_0 : Fs := [(.dat (.int Go.IntKind.i64), false), (.box (.dat (.pr (.sl (.arr 2 (.int Go.IntKind.i64))) (.sl (.int Go.IntKind.i64)))), false), (.own (.int Go.IntKind.i64), true), (.dat (.int Go.IntKind.i64), false), (.dat (.int Go.IntKind.i64), true)]
abbrev i24_2 : Fs := [(.dat (.int Go.IntKind.i64), false), (.box (.dat (.pr (.sl (.arr 2 (.int Go.IntKind.i64))) (.sl (.int Go.IntKind.i64)))), false), (.own (.int Go.IntKind.i64), true), (.dat (.int Go.IntKind.i64), false), (.dat (.int Go.IntKind.i64), false), (.own (.int Go.IntKind.i64), false), (.dat (.int Go.IntKind.i64), false), (.dat (.int Go.IntKind.i64), true)]
noncomputable def implb24_2 (K : Nat) (rc : Int → ((List (List Int)) × (List Int)) → (List Int) → Int → Int → (List Int) → Int → Int → Option ((List Int) × Int × Unit)) (x1 : Int) (x2 : ((List (List Int)) × (List Int))) (x3 : (List Int)) (x4 : Int) (x5 : Int) (x6 : (List Int)) (x7 : Int) (x8 : Int) : Option ((List Int) × Int × Unit) :=
  (bif decide (x8 < x7) then (if (0 : Int) ≤ x8 ∧ x8 < (↑x6.length : Int) then (if (0 : Int) ≤ x8 ∧ x8 < (↑x2.1.length : Int) then (if (0 : Int) ≤ (x2.1.getD x8.toNat (List.replicate 2 ((0 : Int)))).getD (0) ((0 : Int)) ∧ (x2.1.getD x8.toNat (List.replicate 2 ((0 : Int)))).getD (0) ((0 : Int)) < (↑x3.length : Int) then (if (0 : Int) ≤ (x2.1.getD x8.toNat (List.replicate 2 ((0 : Int)))).getD (0) ((0 : Int)) ∧ (x2.1.getD x8.toNat (List.replicate 2 ((0 : Int)))).getD (0) ((0 : Int)) < (↑x3.length : Int) then (if (0 : Int) ≤ x8 ∧ x8 < (↑x2.1.length : Int) then (if (0 : Int) ≤ (x2.1.getD x8.toNat (List.replicate 2 ((0 : Int)))).getD (1) ((0 : Int)) ∧ (x2.1.getD x8.toNat (List.replicate 2 ((0 : Int)))).getD (1) ((0 : Int)) < (↑(x3.set ((x2.1.getD x8.toNat (List.replicate 2 ((0 : Int)))).getD (0) ((0 : Int))).toNat (IntKind.i64.wrap (x3.getD ((x2.1.getD x8.toNat (List.replicate 2 ((0 : Int)))).getD (0) ((0 : Int))).toNat ((0 : Int)) + x6.getD x8.toNat ((0 : Int))))).length : Int) then (if (0 : Int) ≤ (x2.1.getD x8.toNat (List.replicate 2 ((0 : Int)))).getD (1) ((0 : Int)) ∧ (x2.1.getD x8.toNat (List.replicate 2 ((0 : Int)))).getD (1) ((0 : Int)) < (↑(x3.set ((x2.1.getD x8.toNat (List.replicate 2 ((0 : Int)))).getD (0) ((0 : Int))).toNat (IntKind.i64.wrap (x3.getD ((x2.1.getD x8.toNat (List.replicate 2 ((0 : Int)))).getD (0) ((0 : Int))).toNat ((0 : Int)) + x6.getD x8.toNat ((0 : Int))))).length : Int) then (rc x1 x2 ((x3.set ((x2.1.getD x8.toNat (List.replicate 2 ((0 : Int)))).getD (0) ((0 : Int))).toNat (IntKind.i64.wrap (x3.getD ((x2.1.getD x8.toNat (List.replicate 2 ((0 : Int)))).getD (0) ((0 : Int))).toNat ((0 : Int)) + x6.getD x8.toNat ((0 : Int))))).set ((x2.1.getD x8.toNat (List.replicate 2 ((0 : Int)))).getD (1) ((0 : Int))).toNat (IntKind.i64.wrap ((x3.set ((x2.1.getD x8.toNat (List.replicate 2 ((0 : Int)))).getD (0) ((0 : Int))).toNat (IntKind.i64.wrap (x3.getD ((x2.1.getD x8.toNat (List.replicate 2 ((0 : Int)))).getD (0) ((0 : Int))).toNat ((0 : Int)) + x6.getD x8.toNat ((0 : Int))))).getD ((x2.1.getD x8.toNat (List.replicate 2 ((0 : Int)))).getD (1) ((0 : Int))).toNat ((0 : Int)) + x6.getD x8.toNat ((0 : Int))))) x4 x5 x6 x7 (IntKind.i64.wrap (x8 + (1 : Int)))) else none) else none) else none) else none) else none) else none) else none) else some ((x3, x8, ())))
noncomputable def impll24_2 (K : Nat) : Nat → Int → ((List (List Int)) × (List Int)) → (List Int) → Int → Int → (List Int) → Int → Int → Option ((List Int) × Int × Unit)
  | 0, _, _, _, _, _, _, _, _ => none
  | k + 1, x1, x2, x3, x4, x5, x6, x7, x8 => implb24_2 K (impll24_2 K k) x1 x2 x3 x4 x5 x6 x7 x8
noncomputable def n24_2 (K : Nat) : Lent := ⟨[2, 3, 10, 35, 36, 42, 43, 44], i24_2, [45, 46, 47, 48, 11, 12, 49, 50, 51, 52, 53, 54, 55, 56, 57, 58, 59, 60, 61, 62, 63, 64, 65, 66, 67, 68, 69, 70, 71, 72, 73], [2], false, res24, fun x => impll24_2 K K x.1 x.2.1 x.2.2.1 x.2.2.2.1 x.2.2.2.2.1 x.2.2.2.2.2.1 x.2.2.2.2.2.2.1 x.2.2.2.2.2.2.2.1⟩
theorem q24_2 (K : Nat) (rc : Int → ((List (List Int)) × (List Int)) → (List Int) → Int → Int → (List Int) → Int → Int → Option ((List Int) × Int × Unit)) (x1 : Int) (x2 : ((List (List Int)) × (List Int))) (x3 : (List Int)) (x4 : Int) (x5 : Int) (x6 : (List Int)) (x7 : Int) (x8 : Int) : evLoop (L24_0 K) 3 24 Try.f24.results.toList (loopOf 2 (codeOf Try.f24)) 2 [2, 3, 10, 35, 36, 42, 43, 44] i24_2 [2] false res24 (fun x => rc x.1 x.2.1 x.2.2.1 x.2.2.2.1 x.2.2.2.2.1 x.2.2.2.2.2.1 x.2.2.2.2.2.2.1 x.2.2.2.2.2.2.2.1) (x1, x2, x3, x4, x5, x6, x7, x8, ()) = implb24_2 K rc x1 x2 x3 x4 x5 x6 x7 x8 := by kernel_rfl
theorem lp24_2 : loopsIn (loopOf 2 (codeOf Try.f24)) 2 = [] := by kernel_rfl
theorem n24_2_ok (K : Nat) : LentOk Try.prog Try.f24 (loopOf 2 (codeOf Try.f24)) (n24_2 K) := lentOk_k (slots := [2, 3, 10, 35, 36, 42, 43, 44]) (ins := i24_2) (writes := [45, 46, 47, 48, 11, 12, 49, 50, 51, 52, 53, 54, 55, 56, 57, 58, 59, 60, 61, 62, 63, 64, 65, 66, 67, 68, 69, 70, 71, 72, 73]) (exits := [2]) (rets := false) (rs := res24) (lib24_0 K) lp24_2 trivial (by kernel_rfl) (by kernel_rfl) (by kernel_rfl) (by kernel_rfl) (fun k x => impll24_2 K k x.1 x.2.1 x.2.2.1 x.2.2.2.1 x.2.2.2.2.1 x.2.2.2.2.2.1 x.2.2.2.2.2.2.1 x.2.2.2.2.2.2.2.1) (fun _ => rfl) (fun k x => q24_2 K (impll24_2 K k) x.1 x.2.1 x.2.2.1 x.2.2.2.1 x.2.2.2.2.1 x.2.2.2.2.2.1 x.2.2.2.2.2.2.1 x.2.2.2.2.2.2.2.1) K
noncomputable def L24_1 (K : Nat) : Lib := mkLib ti [(30, [e30 K]), (61, [e61 K])] [] 24 [(2, [n24_2 K])]
theorem lib24_1 (K : Nat) : LibOk Try.prog (L24_1 K) := libOk_mk (ents := [(30, [e30 K]), (61, [e61 K])]) (bodies := []) (loops := [(2, [n24_2 K])]) order tiOk ⟨one_ent (e30_ok K), one_ent (e61_ok K), trivial⟩ trivial Try.func24 rfl lp24 ⟨no_lent, one_lent (n24_2_ok K), no_lent, trivial⟩
noncomputable def implb24_0 (K : Nat) (rc : Int → ((List (List Int)) × (List Int)) → (List Int) → Int → Int → Option ((List Int) × Int × Unit)) (x1 : Int) (x2 : ((List (List Int)) × (List Int))) (x3 : (List Int)) (x4 : Int) (x5 : Int) : Option ((List Int) × Int × Unit) :=
  (bif decide (x5 < x4) then (if (0 : Int) ≤ (↑x2.1.length : Int) ∧ (↑x2.1.length : Int) * (8 : Int) ≤ (140737488355328 : Int) then (ob (impll24_2 K K x1 x2 (List.replicate (↑x2.1.length : Int).toNat ((0 : Int))) x4 x5 x3 ((↑x3.length : Int)) ((0 : Int))) fun y1 => (rc x1 x2 y1.1 x4 (IntKind.i64.wrap (x5 + (1 : Int))))) else none) else some ((x3, x5, ())))
noncomputable def impll24_0 (K : Nat) : Nat → Int → ((List (List Int)) × (List Int)) → (List Int) → Int → Int → Option ((List Int) × Int × Unit)
  | 0, _, _, _, _, _ => none
  | k + 1, x1, x2, x3, x4, x5 => implb24_0 K (impll24_0 K k) x1 x2 x3 x4 x5
noncomputable def n24_0 (K : Nat) : Lent := ⟨[2, 3, 9, 35, 36], i24_0, [37, 38, 39, 40, 41, 10, 42, 43, 44, 45, 46, 47, 48, 11, 12, 49, 50, 51, 52, 53, 54, 55, 56, 57, 58, 59, 60, 61, 62, 63, 64, 65, 66, 67, 68, 69, 70, 71, 72, 73, 74, 75], [0], false, res24, fun x => impll24_0 K K x.1 x.2.1 x.2.2.1 x.2.2.2.1 x.2.2.2.2.1⟩
theorem q24_0 (K : Nat) (rc : Int → ((List (List Int)) × (List Int)) → (List Int) → Int → Int → Option ((List Int) × Int × Unit)) (x1 : Int) (x2 : ((List (List Int)) × (List Int))) (x3 : (List Int)) (x4 : Int) (x5 : Int) : evLoop (L24_1 K) 3 24 Try.f24.results.toList (loopOf 0 (codeOf Try.f24)) 0 [2, 3, 9, 35, 36] i24_0 [0] false res24 (fun x => rc x.1 x.2.1 x.2.2.1 x.2.2.2.1 x.2.2.2.2.1) (x1, x2, x3, x4, x5, ()) = implb24_0 K rc x1 x2 x3 x4 x5 := by kernel_rfl
theorem lp24_0 : loopsIn (loopOf 0 (codeOf Try.f24)) 0 = [(2, loopOf 2 (codeOf Try.f24))] := by kernel_rfl
theorem n24_0_ok (K : Nat) : LentOk Try.prog Try.f24 (loopOf 0 (codeOf Try.f24)) (n24_0 K) := lentOk_k (slots := [2, 3, 9, 35, 36]) (ins := i24_0) (writes := [37, 38, 39, 40, 41, 10, 42, 43, 44, 45, 46, 47, 48, 11, 12, 49, 50, 51, 52, 53, 54, 55, 56, 57, 58, 59, 60, 61, 62, 63, 64, 65, 66, 67, 68, 69, 70, 71, 72, 73, 74, 75]) (exits := [0]) (rets := false) (rs := res24) (lib24_1 K) lp24_0 ⟨one_lent (n24_2_ok K), trivial⟩ (by kernel_rfl) (by kernel_rfl) (by kernel_rfl) (by kernel_rfl) (fun k x => impll24_0 K k x.1 x.2.1 x.2.2.1 x.2.2.2.1 x.2.2.2.2.1) (fun _ => rfl) (fun k x => q24_0 K (impll24_0 K k) x.1 x.2.1 x.2.2.1 x.2.2.2.1 x.2.2.2.2.1) K
noncomputable def L24_2 (K : Nat) : Lib := mkLib ti [(30, [e30 K]), (61, [e61 K])] [] 24 [(2, [n24_2 K]), (0, [n24_0 K])]
theorem lib24_2 (K : Nat) : LibOk Try.prog (L24_2 K) := libOk_mk (ents := [(30, [e30 K]), (61, [e61 K])]) (bodies := []) (loops := [(2, [n24_2 K]), (0, [n24_0 K])]) order tiOk ⟨one_ent (e30_ok K), one_ent (e61_ok K), trivial⟩ trivial Try.func24 rfl lp24 ⟨one_lent (n24_0_ok K), one_lent (n24_2_ok K), no_lent, trivial⟩
abbrev i24_4 : Fs := [(.dat (.int Go.IntKind.i64), false), (.box (.dat (.pr (.sl (.arr 2 (.int Go.IntKind.i64))) (.sl (.int Go.IntKind.i64)))), false), (.dat (.int Go.IntKind.i64), true), (.own (.int Go.IntKind.i64), false), (.dat (.int Go.IntKind.i64), false), (.dat (.int Go.IntKind.i64), true)]
noncomputable def implb24_4 (K : Nat) (rc : Int → ((List (List Int)) × (List Int)) → Int → (List Int) → Int → Int → Option (Int × Int × Unit)) (x1 : Int) (x2 : ((List (List Int)) × (List Int))) (x3 : Int) (x4 : (List Int)) (x5 : Int) (x6 : Int) : Option (Int × Int × Unit) :=
  (bif decide (x6 < x5) then (if (0 : Int) ≤ x6 ∧ x6 < (↑x4.length : Int) then (if (0 : Int) ≤ x6 ∧ x6 < (↑x2.2.length : Int) then (bif x2.2.getD x6.toNat ((0 : Int)) == x1 then (rc x1 x2 (IntKind.i64.wrap (x3 + x4.getD x6.toNat ((0 : Int)))) x4 x5 (IntKind.i64.wrap (x6 + (1 : Int)))) else (rc x1 x2 x3 x4 x5 (IntKind.i64.wrap (x6 + (1 : Int))))) else none) else none) else some ((x3, x6, ())))
noncomputable def impll24_4 (K : Nat) : Nat → Int → ((List (List Int)) × (List Int)) → Int → (List Int) → Int → Int → Option (Int × Int × Unit)
  | 0, _, _, _, _, _, _ => none
  | k + 1, x1, x2, x3, x4, x5, x6 => implb24_4 K (impll24_4 K k) x1 x2 x3 x4 x5 x6
noncomputable def n24_4 (K : Nat) : Lent := ⟨[2, 3, 13, 76, 77, 78], i24_4, [79, 80, 81, 82, 14, 15, 83, 84, 85, 86, 87, 88, 89, 90, 91, 92, 93], [4], false, res24, fun x => impll24_4 K K x.1 x.2.1 x.2.2.1 x.2.2.2.1 x.2.2.2.2.1 x.2.2.2.2.2.1⟩
theorem q24_4 (K : Nat) (rc : Int → ((List (List Int)) × (List Int)) → Int → (List Int) → Int → Int → Option (Int × Int × Unit)) (x1 : Int) (x2 : ((List (List Int)) × (List Int))) (x3 : Int) (x4 : (List Int)) (x5 : Int) (x6 : Int) : evLoop (L24_2 K) 3 24 Try.f24.results.toList (loopOf 4 (codeOf Try.f24)) 4 [2, 3, 13, 76, 77, 78] i24_4 [4] false res24 (fun x => rc x.1 x.2.1 x.2.2.1 x.2.2.2.1 x.2.2.2.2.1 x.2.2.2.2.2.1) (x1, x2, x3, x4, x5, x6, ()) = implb24_4 K rc x1 x2 x3 x4 x5 x6 := by kernel_rfl
theorem lp24_4 : loopsIn (loopOf 4 (codeOf Try.f24)) 4 = [] := by kernel_rfl
theorem n24_4_ok (K : Nat) : LentOk Try.prog Try.f24 (loopOf 4 (codeOf Try.f24)) (n24_4 K) := lentOk_k (slots := [2, 3, 13, 76, 77, 78]) (ins := i24_4) (writes := [79, 80, 81, 82, 14, 15, 83, 84, 85, 86, 87, 88, 89, 90, 91, 92, 93]) (exits := [4]) (rets := false) (rs := res24) (lib24_2 K) lp24_4 trivial (by kernel_rfl) (by kernel_rfl) (by kernel_rfl) (by kernel_rfl) (fun k x => impll24_4 K k x.1 x.2.1 x.2.2.1 x.2.2.2.1 x.2.2.2.2.1 x.2.2.2.2.2.1) (fun _ => rfl) (fun k x => q24_4 K (impll24_4 K k) x.1 x.2.1 x.2.2.1 x.2.2.2.1 x.2.2.2.2.1 x.2.2.2.2.2.1) K
noncomputable def L24_3 (K : Nat) : Lib := mkLib ti [(30, [e30 K]), (61, [e61 K])] [] 24 [(2, [n24_2 K]), (0, [n24_0 K]), (4, [n24_4 K])]
theorem lib24_3 (K : Nat) : LibOk Try.prog (L24_3 K) := libOk_mk (ents := [(30, [e30 K]), (61, [e61 K])]) (bodies := []) (loops := [(2, [n24_2 K]), (0, [n24_0 K]), (4, [n24_4 K])]) order tiOk ⟨one_ent (e30_ok K), one_ent (e61_ok K), trivial⟩ trivial Try.func24 rfl lp24 ⟨one_lent (n24_0_ok K), one_lent (n24_2_ok K), one_lent (n24_4_ok K), trivial⟩
noncomputable def implf24 (K : Nat) (x1 : ((List (List Int)) × (List Int))) (x2 : Int) (x3 : Int) : Option (Int × Int) :=
  (ob (implf30 K x1) fun y1 => (bif y1 != (0 : Int) then some (((0 : Int), y1)) else (ob (implf61 K x2 ((0 : Int)) ((20 : Int))) fun y2 => (bif !y2 then some (((0 : Int), (1 : Int))) else (ob (implf61 K x3 ((0 : Int)) ((3 : Int))) fun y3 => (bif !y3 then some (((0 : Int), (1 : Int))) else (if (0 : Int) ≤ (↑x1.1.length : Int) ∧ (↑x1.1.length : Int) * (8 : Int) ≤ (140737488355328 : Int) then (if (0 : Int) ≤ (0 : Int) ∧ (0 : Int) < (↑(List.replicate (↑x1.1.length : Int).toNat ((0 : Int))).length : Int) then (ob (impll24_0 K K x3 x1 ((List.replicate (↑x1.1.length : Int).toNat ((0 : Int))).set (0) ((1 : Int))) x2 ((0 : Int))) fun y4 => (ob (impll24_4 K K x3 x1 ((0 : Int)) y4.1 ((↑y4.1.length : Int)) ((0 : Int))) fun y5 => some ((y5.1, (0 : Int))))) else none) else none)))))))
theorem q24 (K : Nat) (x1 : ((List (List Int)) × (List Int))) (x2 : Int) (x3 : Int) : evFnK (α := Int × Int) (L24_3 K) 3 24 Try.f24.results.toList (codeOf Try.f24) ins24 res24 (fun p => (p.1.1, p.1.2.1)) (x1, x2, x3, ()) = implf24 K x1 x2 x3 := by kernel_rfl
noncomputable def e24 (K : Nat) : Ent := ⟨ins24, res24, Int × Int, fun x => implf24 K x.1 x.2.1 x.2.2.1, fun _ => (fun y => ((y.1, y.2, ()), (())))⟩
theorem e24_ok (K : Nat) : EntOk Try.prog 24 (e24 K) := entOk_k (ins := ins24) (rs := res24) (α := Int × Int) (lib24_3 K) (d := 3) Try.func24 rfl (by kernel_rfl) (by kernel_rfl) (by kernel_rfl) (fun x => implf24 K x.1 x.2.1 x.2.2.1) (fun p => (p.1.1, p.1.2.1)) (fun y => ((y.1, y.2, ()), (()))) (fun _ => rfl) (fun x => q24 K x.1 x.2.1 x.2.2.1)

/-! slices.IndexFunc[[]int,int] -/
abbrev ins87a : Fs := [(.dat (.sl (.int .i64)), false), (.fn 68 .un, false)]
abbrev res87a : Sh := .dat (.int .i64)
theorem lp87 : loopsIn (codeOf Try.f87) 0 = [(0, loopOf 0 (codeOf Try.f87))] := by kernel_rfl
noncomputable def L87a_0 (K : Nat) : Lib := mkLib ti [(61, [e61 K])] [(68, Try.f68), (86, Try.f86)] 87 []
theorem lib87a_0 (K : Nat) : LibOk Try.prog (L87a_0 K) := libOk_mk (ents := [(61, [e61 K])]) (bodies := [(68, Try.f68), (86, Try.f86)]) (loops := []) order tiOk ⟨one_ent (e61_ok K), trivial⟩ ⟨bod68, bod86, trivial⟩ Try.func87 rfl lp87 ⟨no_lent, trivial⟩
abbrev i87a_0 : Fs := [(.dat (.sl (.int Go.IntKind.i64)), false), (.fn 68 (.un), false), (.dat (.int Go.IntKind.i64), false), (.dat (.int Go.IntKind.i64), true)]
noncomputable def implb87a_0 (K : Nat) (rc : (List Int) → Unit → Int → Int → Option (Sum (Int × Unit) Int)) (x1 : (List Int)) (x2 : Unit) (x3 : Int) (x4 : Int) : Option (Sum (Int × Unit) Int) :=
  (bif decide (x4 < x3) then (if (0 : Int) ≤ x4 ∧ x4 < (↑x1.length : Int) then (ob (implf61 K (x1.getD x4.toNat ((0 : Int))) ((0 : Int)) ((3 : Int))) fun y1 => (bif !y1 then some (Sum.inr x4) else (rc x1 x2 x3 (IntKind.i64.wrap (x4 + (1 : Int)))))) else none) else some (Sum.inl (x4, ())))
noncomputable def impll87a_0 (K : Nat) : Nat → (List Int) → Unit → Int → Int → Option (Sum (Int × Unit) Int)
  | 0, _, _, _, _ => none
  | k + 1, x1, x2, x3, x4 => implb87a_0 K (impll87a_0 K k) x1 x2 x3 x4
noncomputable def n87a_0 (K : Nat) : Lent := ⟨[0, 1, 7, 8], i87a_0, [9, 10, 5, 11, 12, 13, 14, 15, 16, 17, 4, 18], [0], true, res87a, fun x => impll87a_0 K K x.1 x.2.1 x.2.2.1 x.2.2.2.1⟩
theorem q87a_0 (K : Nat) (rc : (List Int) → Unit → Int → Int → Option (Sum (Int × Unit) Int)) (x1 : (List Int)) (x2 : Unit) (x3 : Int) (x4 : Int) : evLoop (L87a_0 K) 3 87 Try.f87.results.toList (loopOf 0 (codeOf Try.f87)) 0 [0, 1, 7, 8] i87a_0 [0] true res87a (fun x => rc x.1 x.2.1 x.2.2.1 x.2.2.2.1) (x1, x2, x3, x4, ()) = implb87a_0 K rc x1 x2 x3 x4 := by kernel_rfl
theorem lp87a_0 : loopsIn (loopOf 0 (codeOf Try.f87)) 0 = [] := by kernel_rfl
theorem n87a_0_ok (K : Nat) : LentOk Try.prog Try.f87 (loopOf 0 (codeOf Try.f87)) (n87a_0 K) := lentOk_k (slots := [0, 1, 7, 8]) (ins := i87a_0) (writes := [9, 10, 5, 11, 12, 13, 14, 15, 16, 17, 4, 18]) (exits := [0]) (rets := true) (rs := res87a) (lib87a_0 K) lp87a_0 trivial (by kernel_rfl) (by kernel_rfl) (by kernel_rfl) (by kernel_rfl) (fun k x => impll87a_0 K k x.1 x.2.1 x.2.2.1 x.2.2.2.1) (fun _ => rfl) (fun k x => q87a_0 K (impll87a_0 K k) x.1 x.2.1 x.2.2.1 x.2.2.2.1) K
noncomputable def L87a_1 (K : Nat) : Lib := mkLib ti [(61, [e61 K])] [(68, Try.f68), (86, Try.f86)] 87 [(0, [n87a_0 K])]
theorem lib87a_1 (K : Nat) : LibOk Try.prog (L87a_1 K) := libOk_mk (ents := [(61, [e61 K])]) (bodies := [(68, Try.f68), (86, Try.f86)]) (loops := [(0, [n87a_0 K])]) order tiOk ⟨one_ent (e61_ok K), trivial⟩ ⟨bod68, bod86, trivial⟩ Try.func87 rfl lp87 ⟨one_lent (n87a_0_ok K), trivial⟩
noncomputable def implf87a (K : Nat) (x1 : (List Int)) (x2 : Unit) : Option (Int) :=
  (ob (impll87a_0 K K x1 () ((↑x1.length : Int)) ((0 : Int))) fun y1 => (match y1 with | .inl y2 => some ((-1 : Int)) | .inr y2 => some (y2)))
theorem q87a (K : Nat) (x1 : (List Int)) (x2 : Unit) : evFnK (α := Int) (L87a_1 K) 3 87 Try.f87.results.toList (codeOf Try.f87) ins87a res87a (fun p => p.1) (x1, x2, ()) = implf87a K x1 x2 := by kernel_rfl
noncomputable def e87a (K : Nat) : Ent := ⟨ins87a, res87a, Int, fun x => implf87a K x.1 x.2.1, fun _ => (fun y => (y, (())))⟩
theorem e87a_ok (K : Nat) : EntOk Try.prog 87 (e87a K) := entOk_k (ins := ins87a) (rs := res87a) (α := Int) (lib87a_1 K) (d := 3) Try.func87 rfl (by kernel_rfl) (by kernel_rfl) (by kernel_rfl) (fun x => implf87a K x.1 x.2.1) (fun p => p.1) (fun y => (y, (()))) (fun _ => rfl) (fun x => q87a K x.1 x.2.1)

abbrev ins87b : Fs := [(.dat (.sl (.int .i64)), false), (.fn 86 .un, false)]
abbrev res87b : Sh := .dat (.int .i64)
noncomputable def L87b_0 (K : Nat) : Lib := mkLib ti [(61, [e61 K])] [(68, Try.f68), (86, Try.f86)] 87 []
theorem lib87b_0 (K : Nat) : LibOk Try.prog (L87b_0 K) := libOk_mk (ents := [(61, [e61 K])]) (bodies := [(68, Try.f68), (86, Try.f86)]) (loops := []) order tiOk ⟨one_ent (e61_ok K), trivial⟩ ⟨bod68, bod86, trivial⟩ Try.func87 rfl lp87 ⟨no_lent, trivial⟩
abbrev i87b_0 : Fs := [(.dat (.sl (.int Go.IntKind.i64)), false), (.fn 86 (.un), false), (.dat (.int Go.IntKind.i64), false), (.dat (.int Go.IntKind.i64), true)]
noncomputable def implb87b_0 (K : Nat) (rc : (List Int) → Unit → Int → Int → Option (Sum (Int × Unit) Int)) (x1 : (List Int)) (x2 : Unit) (x3 : Int) (x4 : Int) : Option (Sum (Int × Unit) Int) :=
  (bif decide (x4 < x3) then (if (0 : Int) ≤ x4 ∧ x4 < (↑x1.length : Int) then (ob (implf61 K (x1.getD x4.toNat ((0 : Int))) ((0 : Int)) ((1 : Int))) fun y1 => (bif !y1 then some (Sum.inr x4) else (rc x1 x2 x3 (IntKind.i64.wrap (x4 + (1 : Int)))))) else none) else some (Sum.inl (x4, ())))
noncomputable def impll87b_0 (K : Nat) : Nat → (List Int) → Unit → Int → Int → Option (Sum (Int × Unit) Int)
  | 0, _, _, _, _ => none
  | k + 1, x1, x2, x3, x4 => implb87b_0 K (impll87b_0 K k) x1 x2 x3 x4
noncomputable def n87b_0 (K : Nat) : Lent := ⟨[0, 1, 7, 8], i87b_0, [9, 10, 5, 11, 12, 13, 14, 15, 16, 17, 4, 18], [0], true, res87b, fun x => impll87b_0 K K x.1 x.2.1 x.2.2.1 x.2.2.2.1⟩
theorem q87b_0 (K : Nat) (rc : (List Int) → Unit → Int → Int → Option (Sum (Int × Unit) Int)) (x1 : (List Int)) (x2 : Unit) (x3 : Int) (x4 : Int) : evLoop (L87b_0 K) 3 87 Try.f87.results.toList (loopOf 0 (codeOf Try.f87)) 0 [0, 1, 7, 8] i87b_0 [0] true res87b (fun x => rc x.1 x.2.1 x.2.2.1 x.2.2.2.1) (x1, x2, x3, x4, ()) = implb87b_0 K rc x1 x2 x3 x4 := by kernel_rfl
theorem lp87b_0 : loopsIn (loopOf 0 (codeOf Try.f87)) 0 = [] := by kernel_rfl
theorem n87b_0_ok (K : Nat) : LentOk Try.prog Try.f87 (loopOf 0 (codeOf Try.f87)) (n87b_0 K) := lentOk_k (slots := [0, 1, 7, 8]) (ins := i87b_0) (writes := [9, 10, 5, 11, 12, 13, 14, 15, 16, 17, 4, 18]) (exits := [0]) (rets := true) (rs := res87b) (lib87b_0 K) lp87b_0 trivial (by kernel_rfl) (by kernel_rfl) (by kernel_rfl) (by kernel_rfl) (fun k x => impll87b_0 K k x.1 x.2.1 x.2.2.1 x.2.2.2.1) (fun _ => rfl) (fun k x => q87b_0 K (impll87b_0 K k) x.1 x.2.1 x.2.2.1 x.2.2.2.1) K
noncomputable def L87b_1 (K : Nat) : Lib := mkLib ti [(61, [e61 K])] [(68, Try.f68), (86, Try.f86)] 87 [(0, [n87b_0 K])]
theorem lib87b_1 (K : Nat) : LibOk Try.prog (L87b_1 K) := libOk_mk (ents := [(61, [e61 K])]) (bodies := [(68, Try.f68), (86, Try.f86)]) (loops := [(0, [n87b_0 K])]) order tiOk ⟨one_ent (e61_ok K), trivial⟩ ⟨bod68, bod86, trivial⟩ Try.func87 rfl lp87 ⟨one_lent (n87b_0_ok K), trivial⟩
noncomputable def implf87b (K : Nat) (x1 : (List Int)) (x2 : Unit) : Option (Int) :=
  (ob (impll87b_0 K K x1 () ((↑x1.length : Int)) ((0 : Int))) fun y1 => (match y1 with | .inl y2 => some ((-1 : Int)) | .inr y2 => some (y2)))
theorem q87b (K : Nat) (x1 : (List Int)) (x2 : Unit) : evFnK (α := Int) (L87b_1 K) 3 87 Try.f87.results.toList (codeOf Try.f87) ins87b res87b (fun p => p.1) (x1, x2, ()) = implf87b K x1 x2 := by kernel_rfl
noncomputable def e87b (K : Nat) : Ent := ⟨ins87b, res87b, Int, fun x => implf87b K x.1 x.2.1, fun _ => (fun y => (y, (())))⟩
theorem e87b_ok (K : Nat) : EntOk Try.prog 87 (e87b K) := entOk_k (ins := ins87b) (rs := res87b) (α := Int) (lib87b_1 K) (d := 3) Try.func87 rfl (by kernel_rfl) (by kernel_rfl) (by kernel_rfl) (fun x => implf87b K x.1 x.2.1) (fun p => p.1) (fun y => (y, (()))) (fun _ => rfl) (fun x => q87b K x.1 x.2.1)

/-! diaphone/relay.worded -/
abbrev ins63 : Fs := [(.dat (.pr (.sl (.arr 2 (.int .i64))) (.sl (.int .i64))), false), (.dat (.sl (.int .i64)), false)]
abbrev res63 : Sh := .dat (.int .i64)
theorem lp63 : loopsIn (codeOf Try.f63) 0 = [] := by kernel_rfl
noncomputable def L63_0 (K : Nat) : Lib := mkLib ti [(30, [e30 K]), (87, [e87a K, e87b K]), (61, [e61 K])] [(67, Try.f67), (86, Try.f86)] 63 []
theorem lib63_0 (K : Nat) : LibOk Try.prog (L63_0 K) := libOk_mk (ents := [(30, [e30 K]), (87, [e87a K, e87b K]), (61, [e61 K])]) (bodies := [(67, Try.f67), (86, Try.f86)]) (loops := []) order tiOk ⟨one_ent (e30_ok K), more_ent (e87a_ok K) (one_ent (e87b_ok K)), one_ent (e61_ok K), trivial⟩ ⟨bod67, bod86, trivial⟩ Try.func63 rfl lp63 trivial
noncomputable def implf63 (K : Nat) (x1 : ((List (List Int)) × (List Int))) (x2 : (List Int)) : Option (Int) :=
  (ob (implf30 K x1) fun y1 => (bif y1 != (0 : Int) then some (y1) else (bif decide ((↑x2.length : Int) > (40 : Int)) then some ((3 : Int)) else (ob (implf87b K x2 ()) fun y2 => (bif decide (y2 ≥ (0 : Int)) then some ((1 : Int)) else some ((0 : Int)))))))
theorem q63 (K : Nat) (x1 : ((List (List Int)) × (List Int))) (x2 : (List Int)) : evFnK (α := Int) (L63_0 K) 3 63 Try.f63.results.toList (codeOf Try.f63) ins63 res63 (fun p => p.1) (x1, x2, ()) = implf63 K x1 x2 := by kernel_rfl
noncomputable def e63 (K : Nat) : Ent := ⟨ins63, res63, Int, fun x => implf63 K x.1 x.2.1, fun _ => (fun y => (y, (())))⟩
theorem e63_ok (K : Nat) : EntOk Try.prog 63 (e63 K) := entOk_k (ins := ins63) (rs := res63) (α := Int) (lib63_0 K) (d := 3) Try.func63 rfl (by kernel_rfl) (by kernel_rfl) (by kernel_rfl) (fun x => implf63 K x.1 x.2.1) (fun p => p.1) (fun y => (y, (()))) (fun _ => rfl) (fun x => q63 K x.1 x.2.1)

end Go.Proofs.Ythdmngalhppkcaa
