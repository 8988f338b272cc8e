/- What the functions compute: printed by a program of this claim's author. -/
import Derived.Test.YtdgibokmaannjaaR7
set_option maxRecDepth 100000
set_option linter.unusedVariables false
set_option linter.unusedSimpArgs false
namespace Go.Proofs.Ytdgibokmaannjaa
open Go Go.Pv

/-! cmp.Compare[int] -/
abbrev ins110 : Fs := [(.dat (.int .i64), false), (.dat (.int .i64), false)]
abbrev res110 : Sh := .dat (.int .i64)
theorem lp110 : loopsIn (codeOf Try.f110) 0 = [] := by kernel_rfl
noncomputable def L110_0 (K : Nat) : Lib := mkLib ti [] [(124, Try.f124)] 110 []
theorem lib110_0 (K : Nat) : LibOk Try.prog (L110_0 K) := libOk_mk (ents := []) (bodies := [(124, Try.f124)]) (loops := []) order tiOk trivial ⟨bod124, trivial⟩ Try.func110 rfl lp110 trivial
noncomputable def implf110 (K : Nat) (x1 : Int) (x2 : Int) : Option (Int) :=
  (bif x1 != x1 then (bif x2 != x2 then some ((0 : Int)) else some ((-1 : Int))) else (bif x2 != x2 then some ((1 : Int)) else (bif decide (x1 < x2) then some ((-1 : Int)) else (bif decide (x1 > x2) then some ((1 : Int)) else some ((0 : Int))))))
theorem q110 (K : Nat) (x1 : Int) (x2 : Int) : evFnK (α := Int) (L110_0 K) 3 110 Try.f110.results.toList (codeOf Try.f110) ins110 res110 (fun p => p.1) (x1, x2, ()) = implf110 K x1 x2 := by kernel_rfl
noncomputable def e110 (K : Nat) : Ent := ⟨ins110, res110, Int, fun x => implf110 K x.1 x.2.1, fun _ => (fun y => (y, (()))), false⟩
theorem e110_ok (K : Nat) : EntOk Try.prog 110 (e110 K) := entOk_k (ins := ins110) (rs := res110) (α := Int) (lib110_0 K) (d := 3) Try.func110 rfl (by kernel_rfl) (by kernel_rfl) (by kernel_rfl) (fun x => implf110 K x.1 x.2.1) (fun p => p.1) (fun y => (y, (()))) (fun _ => rfl) (fun x => q110 K x.1 x.2.1)

/-! slices.Compare[[]int,int] -/
abbrev ins94 : Fs := [(.dat (.sl (.int .i64)), false), (.dat (.sl (.int .i64)), false)]
abbrev res94 : Sh := .dat (.int .i64)
theorem lp94 : loopsIn (codeOf Try.f94) 0 = [(0, loopOf 0 (codeOf Try.f94))] := by kernel_rfl
noncomputable def L94_0 (K : Nat) : Lib := mkLib ti [(110, [e110 K])] [] 94 []
theorem lib94_0 (K : Nat) : LibOk Try.prog (L94_0 K) := libOk_mk (ents := [(110, [e110 K])]) (bodies := []) (loops := []) order tiOk ⟨one_ent (e110_ok K), trivial⟩ trivial Try.func94 rfl lp94 ⟨no_lent, trivial⟩
abbrev i94_0 : Fs := [(.dat (.sl (.int Go.IntKind.i64)), false), (.dat (.sl (.int Go.IntKind.i64)), false), (.dat (.sl (.int Go.IntKind.i64)), false), (.dat (.int Go.IntKind.i64), false), (.dat (.int Go.IntKind.i64), true)]
noncomputable def implb94_0 (K : Nat) (rc : (List Int) → (List Int) → (List Int) → Int → Int → Option (Sum (Int × Unit) Int)) (x1 : (List Int)) (x2 : (List Int)) (x3 : (List Int)) (x4 : Int) (x5 : Int) : Option (Sum (Int × Unit) Int) :=
  (bif decide (x5 < x4) then (if (0 : Int) ≤ x5 ∧ x5 < (↑x3.length : Int) then (bif decide (x5 ≥ (↑x2.length : Int)) then some (Sum.inr ((1 : Int))) else (if (0 : Int) ≤ x5 ∧ x5 < (↑x2.length : Int) then (ob (implf110 K (x3.getD x5.toNat ((0 : Int))) (x2.getD x5.toNat ((0 : Int)))) fun y1 => (bif y1 != (0 : Int) then some (Sum.inr y1) else (rc x1 x2 x3 x4 (IntKind.i64.wrap (x5 + (1 : Int)))))) else none)) else none) else some (Sum.inl (x5, ())))
noncomputable def impll94_0 (K : Nat) : Nat → (List Int) → (List Int) → (List Int) → Int → Int → Option (Sum (Int × Unit) Int)
  | 0, _, _, _, _, _ => none
  | k + 1, x1, x2, x3, x4, x5 => implb94_0 K (impll94_0 K k) x1 x2 x3 x4 x5
noncomputable def n94_0 (K : Nat) : Lent := ⟨[0, 1, 9, 10, 11], i94_0, [12, 13, 14, 15, 5, 6, 16, 17, 18, 19, 4, 20, 21, 22, 23, 7, 24, 25, 26, 8, 27, 28, 29, 30], [0], true, res94, fun x => impll94_0 K K x.1 x.2.1 x.2.2.1 x.2.2.2.1 x.2.2.2.2.1, [], none⟩
theorem q94_0 (K : Nat) (rc : (List Int) → (List Int) → (List Int) → Int → Int → Option (Sum (Int × Unit) Int)) (x1 : (List Int)) (x2 : (List Int)) (x3 : (List Int)) (x4 : Int) (x5 : Int) : evLoop (L94_0 K) 3 94 Try.f94.results.toList (loopOf 0 (codeOf Try.f94)) 0 [0, 1, 9, 10, 11] [] i94_0 [0] true res94 (fun x => rc x.1 x.2.1 x.2.2.1 x.2.2.2.1 x.2.2.2.2.1) (x1, x2, x3, x4, x5, ()) = implb94_0 K rc x1 x2 x3 x4 x5 := by kernel_rfl
theorem lp94_0 : loopsIn (loopOf 0 (codeOf Try.f94)) 0 = [] := by kernel_rfl
theorem n94_0_ok (K : Nat) : LentOk Try.prog Try.f94 (loopOf 0 (codeOf Try.f94)) (n94_0 K) := lentOk_k (slots := [0, 1, 9, 10, 11]) (ali := []) (ins := i94_0) (writes := [12, 13, 14, 15, 5, 6, 16, 17, 18, 19, 4, 20, 21, 22, 23, 7, 24, 25, 26, 8, 27, 28, 29, 30]) (exits := [0]) (rets := true) (rs := res94) (d := 3) (lib94_0 K) lp94_0 trivial (by kernel_rfl) (by kernel_rfl) (by kernel_rfl) (by kernel_rfl) (by kernel_rfl) (fun k x => impll94_0 K k x.1 x.2.1 x.2.2.1 x.2.2.2.1 x.2.2.2.2.1) (fun _ => rfl) (fun k x => q94_0 K (impll94_0 K k) x.1 x.2.1 x.2.2.1 x.2.2.2.1 x.2.2.2.2.1) K
noncomputable def L94_1 (K : Nat) : Lib := mkLib ti [(110, [e110 K])] [] 94 [(0, [n94_0 K])]
theorem lib94_1 (K : Nat) : LibOk Try.prog (L94_1 K) := libOk_mk (ents := [(110, [e110 K])]) (bodies := []) (loops := [(0, [n94_0 K])]) order tiOk ⟨one_ent (e110_ok K), trivial⟩ trivial Try.func94 rfl lp94 ⟨one_lent (n94_0_ok K), trivial⟩
noncomputable def implf94 (K : Nat) (x1 : (List Int)) (x2 : (List Int)) : Option (Int) :=
  (ob (impll94_0 K K x1 x2 x1 ((↑x1.length : Int)) ((0 : Int))) fun y1 => (match y1 with | .inl y2 => (bif decide ((↑x1.length : Int) < (↑x2.length : Int)) then some ((-1 : Int)) else some ((0 : Int))) | .inr y2 => some (y2)))
theorem q94 (K : Nat) (x1 : (List Int)) (x2 : (List Int)) : evFnK (α := Int) (L94_1 K) 3 94 Try.f94.results.toList (codeOf Try.f94) ins94 res94 (fun p => p.1) (x1, x2, ()) = implf94 K x1 x2 := by kernel_rfl
noncomputable def e94 (K : Nat) : Ent := ⟨ins94, res94, Int, fun x => implf94 K x.1 x.2.1, fun _ => (fun y => (y, (()))), false⟩
theorem e94_ok (K : Nat) : EntOk Try.prog 94 (e94 K) := entOk_k (ins := ins94) (rs := res94) (α := Int) (lib94_1 K) (d := 3) Try.func94 rfl (by kernel_rfl) (by kernel_rfl) (by kernel_rfl) (fun x => implf94 K x.1 x.2.1) (fun p => p.1) (fun y => (y, (()))) (fun _ => rfl) (fun x => q94 K x.1 x.2.1)

/-! slices.Equal[[]int,int] -/
abbrev ins69 : Fs := [(.dat (.sl (.int .i64)), false), (.dat (.sl (.int .i64)), false)]
abbrev res69 : Sh := .dat (.bool)
theorem lp69 : loopsIn (codeOf Try.f69) 0 = [(0, loopOf 0 (codeOf Try.f69))] := by kernel_rfl
noncomputable def L69_0 (K : Nat) : Lib := mkLib ti [] [] 69 []
theorem lib69_0 (K : Nat) : LibOk Try.prog (L69_0 K) := libOk_mk (ents := []) (bodies := []) (loops := []) order tiOk trivial trivial Try.func69 rfl lp69 ⟨no_lent, trivial⟩
abbrev i69_0 : Fs := [(.dat (.sl (.int Go.IntKind.i64)), false), (.dat (.sl (.int Go.IntKind.i64)), false), (.dat (.int Go.IntKind.i64), false), (.dat (.int Go.IntKind.i64), true)]
noncomputable def implb69_0 (K : Nat) (rc : (List Int) → (List Int) → Int → Int → Option (Sum (Int × Unit) Bool)) (x1 : (List Int)) (x2 : (List Int)) (x3 : Int) (x4 : Int) : Option (Sum (Int × Unit) Bool) :=
  (bif decide (x4 < x3) then (if (0 : Int) ≤ x4 ∧ x4 < (↑x1.length : Int) then (if (0 : Int) ≤ x4 ∧ x4 < (↑x2.length : Int) then (bif x1.getD x4.toNat ((0 : Int)) != x2.getD x4.toNat ((0 : Int)) then some (Sum.inr false) else (rc x1 x2 x3 (IntKind.i64.wrap (x4 + (1 : Int))))) else none) else none) else some (Sum.inl (x4, ())))
noncomputable def impll69_0 (K : Nat) : Nat → (List Int) → (List Int) → Int → Int → Option (Sum (Int × Unit) Bool)
  | 0, _, _, _, _ => none
  | k + 1, x1, x2, x3, x4 => implb69_0 K (impll69_0 K k) x1 x2 x3 x4
noncomputable def n69_0 (K : Nat) : Lent := ⟨[0, 1, 12, 13], i69_0, [14, 15, 5, 16, 17, 18, 19, 20, 21, 22, 23, 24, 4, 25], [0], true, res69, fun x => impll69_0 K K x.1 x.2.1 x.2.2.1 x.2.2.2.1, [], none⟩
theorem q69_0 (K : Nat) (rc : (List Int) → (List Int) → Int → Int → Option (Sum (Int × Unit) Bool)) (x1 : (List Int)) (x2 : (List Int)) (x3 : Int) (x4 : Int) : evLoop (L69_0 K) 3 69 Try.f69.results.toList (loopOf 0 (codeOf Try.f69)) 0 [0, 1, 12, 13] [] i69_0 [0] true res69 (fun x => rc x.1 x.2.1 x.2.2.1 x.2.2.2.1) (x1, x2, x3, x4, ()) = implb69_0 K rc x1 x2 x3 x4 := by kernel_rfl
theorem lp69_0 : loopsIn (loopOf 0 (codeOf Try.f69)) 0 = [] := by kernel_rfl
theorem n69_0_ok (K : Nat) : LentOk Try.prog Try.f69 (loopOf 0 (codeOf Try.f69)) (n69_0 K) := lentOk_k (slots := [0, 1, 12, 13]) (ali := []) (ins := i69_0) (writes := [14, 15, 5, 16, 17, 18, 19, 20, 21, 22, 23, 24, 4, 25]) (exits := [0]) (rets := true) (rs := res69) (d := 3) (lib69_0 K) lp69_0 trivial (by kernel_rfl) (by kernel_rfl) (by kernel_rfl) (by kernel_rfl) (by kernel_rfl) (fun k x => impll69_0 K k x.1 x.2.1 x.2.2.1 x.2.2.2.1) (fun _ => rfl) (fun k x => q69_0 K (impll69_0 K k) x.1 x.2.1 x.2.2.1 x.2.2.2.1) K
noncomputable def L69_1 (K : Nat) : Lib := mkLib ti [] [] 69 [(0, [n69_0 K])]
theorem lib69_1 (K : Nat) : LibOk Try.prog (L69_1 K) := libOk_mk (ents := []) (bodies := []) (loops := [(0, [n69_0 K])]) order tiOk trivial trivial Try.func69 rfl lp69 ⟨one_lent (n69_0_ok K), trivial⟩
noncomputable def implf69 (K : Nat) (x1 : (List Int)) (x2 : (List Int)) : Option (Bool) :=
  (bif (↑x1.length : Int) != (↑x2.length : Int) then some (false) else (ob (impll69_0 K K x1 x2 ((↑x1.length : Int)) ((0 : Int))) fun y1 => (match y1 with | .inl y2 => some (true) | .inr y2 => some (y2))))
theorem q69 (K : Nat) (x1 : (List Int)) (x2 : (List Int)) : evFnK (α := Bool) (L69_1 K) 3 69 Try.f69.results.toList (codeOf Try.f69) ins69 res69 (fun p => p.1) (x1, x2, ()) = implf69 K x1 x2 := by kernel_rfl
noncomputable def e69 (K : Nat) : Ent := ⟨ins69, res69, Bool, fun x => implf69 K x.1 x.2.1, fun _ => (fun y => (y, (()))), false⟩
theorem e69_ok (K : Nat) : EntOk Try.prog 69 (e69 K) := entOk_k (ins := ins69) (rs := res69) (α := Bool) (lib69_1 K) (d := 3) Try.func69 rfl (by kernel_rfl) (by kernel_rfl) (by kernel_rfl) (fun x => implf69 K x.1 x.2.1) (fun p => p.1) (fun y => (y, (()))) (fun _ => rfl) (fun x => q69 K x.1 x.2.1)

/-! slices.Sort[[]int,int] -/
abbrev ins81 : Fs := [(.own (.int .i64), true)]
abbrev res81 : Sh := .nix
noncomputable def implf81 (K : Nat) (x1 : List Int) : Option (List Int) := if x1.length ≤ 1000 then some (isort leI x1) else none
noncomputable def e81 (K : Nat) : Ent := ⟨ins81, res81, List Int, fun x => implf81 K x.1, fun _ => (fun y => ((), (y, ()))), false⟩
theorem e81_ok (K : Nat) : EntOk Try.prog 81 (e81 K) := sort_ent

/-! diaphone/echo.delays -/
abbrev ins70 : Fs := [(.dat (.sl (.int .i64)), false)]
abbrev res70 : Sh := .own (.int .i64)
theorem lp70 : loopsIn (codeOf Try.f70) 0 = [(0, loopOf 0 (codeOf Try.f70)), (2, loopOf 2 (codeOf Try.f70))] := by kernel_rfl
noncomputable def L70_0 (K : Nat) : Lib := mkLib ti [(81, [e81 K])] [] 70 []
theorem lib70_0 (K : Nat) : LibOk Try.prog (L70_0 K) := libOk_mk (ents := [(81, [e81 K])]) (bodies := []) (loops := []) order tiOk ⟨one_ent (e81_ok K), trivial⟩ trivial Try.func70 rfl lp70 ⟨no_lent, no_lent, trivial⟩
abbrev i70_0 : Fs := [(.dat (.sl (.int Go.IntKind.i64)), false), (.own (.int .i64), true), (.dat (.sl (.int Go.IntKind.i64)), false), (.dat (.int Go.IntKind.i64), false), (.dat (.int Go.IntKind.i64), true)]
abbrev i70_2 : Fs := [(.dat (.sl (.int Go.IntKind.i64)), false), (.own (.int Go.IntKind.i64), true), (.dat (.int Go.IntKind.i64), false), (.dat (.sl (.int Go.IntKind.i64)), false), (.dat (.int Go.IntKind.i64), false), (.dat (.int Go.IntKind.i64), false), (.dat (.sl (.int Go.IntKind.i64)), false), (.dat (.int Go.IntKind.i64), false), (.dat (.int Go.IntKind.i64), true)]
noncomputable def implb70_2 (K : Nat) (rc : (List Int) → (List Int) → Int → (List Int) → Int → Int → (List Int) → Int → Int → Option ((List Int) × Int × Unit)) (x1 : (List Int)) (x2 : (List Int)) (x3 : Int) (x4 : (List Int)) (x5 : Int) (x6 : Int) (x7 : (List Int)) (x8 : Int) (x9 : Int) : Option ((List Int) × Int × Unit) :=
  (bif decide (x9 < x8) then (if (0 : Int) ≤ x9 ∧ x9 < (↑x7.length : Int) then (if (x2.length + ((List.replicate 1 ((0 : Int))).set 0 (IntKind.i64.wrap (x3 - x7.getD x9.toNat ((0 : Int))))).length) * 8 ≤ 140737488355328 then (rc x1 (x2 ++ (List.replicate 1 ((0 : Int))).set 0 (IntKind.i64.wrap (x3 - x7.getD x9.toNat ((0 : Int))))) x3 x4 x5 x6 x7 x8 (IntKind.i64.wrap (x9 + (1 : Int)))) else none) else none) else some ((x2, x9, ())))
noncomputable def impll70_2 (K : Nat) : Nat → (List Int) → (List Int) → Int → (List Int) → Int → Int → (List Int) → Int → Int → Option ((List Int) × Int × Unit)
  | 0, _, _, _, _, _, _, _, _, _ => none
  | k + 1, x1, x2, x3, x4, x5, x6, x7, x8, x9 => implb70_2 K (impll70_2 K k) x1 x2 x3 x4 x5 x6 x7 x8 x9
noncomputable def n70_2 (K : Nat) : Lent := ⟨[0, 3, 5, 8, 9, 10, 17, 18, 19], i70_2, [20, 21, 22, 7, 23, 24, 25, 26, 27, 28, 29], [2], false, res70, fun x => impll70_2 K K x.1 x.2.1 x.2.2.1 x.2.2.2.1 x.2.2.2.2.1 x.2.2.2.2.2.1 x.2.2.2.2.2.2.1 x.2.2.2.2.2.2.2.1 x.2.2.2.2.2.2.2.2.1, [], none⟩
theorem q70_2 (K : Nat) (rc : (List Int) → (List Int) → Int → (List Int) → Int → Int → (List Int) → Int → Int → Option ((List Int) × Int × Unit)) (x1 : (List Int)) (x2 : (List Int)) (x3 : Int) (x4 : (List Int)) (x5 : Int) (x6 : Int) (x7 : (List Int)) (x8 : Int) (x9 : Int) : evLoop (L70_0 K) 3 70 Try.f70.results.toList (loopOf 2 (codeOf Try.f70)) 2 [0, 3, 5, 8, 9, 10, 17, 18, 19] [] i70_2 [2] false res70 (fun x => rc x.1 x.2.1 x.2.2.1 x.2.2.2.1 x.2.2.2.2.1 x.2.2.2.2.2.1 x.2.2.2.2.2.2.1 x.2.2.2.2.2.2.2.1 x.2.2.2.2.2.2.2.2.1) (x1, x2, x3, x4, x5, x6, x7, x8, x9, ()) = implb70_2 K rc x1 x2 x3 x4 x5 x6 x7 x8 x9 := by kernel_rfl
theorem lp70_2 : loopsIn (loopOf 2 (codeOf Try.f70)) 2 = [] := by kernel_rfl
theorem n70_2_ok (K : Nat) : LentOk Try.prog Try.f70 (loopOf 2 (codeOf Try.f70)) (n70_2 K) := lentOk_k (slots := [0, 3, 5, 8, 9, 10, 17, 18, 19]) (ali := []) (ins := i70_2) (writes := [20, 21, 22, 7, 23, 24, 25, 26, 27, 28, 29]) (exits := [2]) (rets := false) (rs := res70) (d := 3) (lib70_0 K) lp70_2 trivial (by kernel_rfl) (by kernel_rfl) (by kernel_rfl) (by kernel_rfl) (by kernel_rfl) (fun k x => impll70_2 K k x.1 x.2.1 x.2.2.1 x.2.2.2.1 x.2.2.2.2.1 x.2.2.2.2.2.1 x.2.2.2.2.2.2.1 x.2.2.2.2.2.2.2.1 x.2.2.2.2.2.2.2.2.1) (fun _ => rfl) (fun k x => q70_2 K (impll70_2 K k) x.1 x.2.1 x.2.2.1 x.2.2.2.1 x.2.2.2.2.1 x.2.2.2.2.2.1 x.2.2.2.2.2.2.1 x.2.2.2.2.2.2.2.1 x.2.2.2.2.2.2.2.2.1) K
noncomputable def L70_1 (K : Nat) : Lib := mkLib ti [(81, [e81 K])] [] 70 [(2, [n70_2 K])]
theorem lib70_1 (K : Nat) : LibOk Try.prog (L70_1 K) := libOk_mk (ents := [(81, [e81 K])]) (bodies := []) (loops := [(2, [n70_2 K])]) order tiOk ⟨one_ent (e81_ok K), trivial⟩ trivial Try.func70 rfl lp70 ⟨no_lent, one_lent (n70_2_ok K), trivial⟩
noncomputable def implb70_0 (K : Nat) (rc : (List Int) → (List Int) → (List Int) → Int → Int → Option ((List Int) × Int × Unit)) (x1 : (List Int)) (x2 : (List Int)) (x3 : (List Int)) (x4 : Int) (x5 : Int) : Option ((List Int) × Int × Unit) :=
  (bif decide (x5 < x4) then (if (0 : Int) ≤ x5 ∧ x5 < (↑x3.length : Int) then (if (0 : Int) ≤ (0 : Int) ∧ (0 : Int) ≤ x5 ∧ x5 ≤ (↑x1.length : Int) then (ob (impll70_2 K K x1 x2 (x3.getD x5.toNat ((0 : Int))) x3 x4 x5 (List.take x5.toNat x1) (Int.ofNat (List.take x5.toNat x1).length) ((0 : Int))) fun y1 => (rc x1 y1.1 x3 x4 (IntKind.i64.wrap (x5 + (1 : Int))))) else none) else none) else some ((x2, x5, ())))
noncomputable def impll70_0 (K : Nat) : Nat → (List Int) → (List Int) → (List Int) → Int → Int → Option ((List Int) × Int × Unit)
  | 0, _, _, _, _, _ => none
  | k + 1, x1, x2, x3, x4, x5 => implb70_0 K (impll70_0 K k) x1 x2 x3 x4 x5
noncomputable def n70_0 (K : Nat) : Lent := ⟨[0, 3, 8, 9, 10], i70_0, [11, 12, 13, 14, 4, 5, 15, 16, 17, 18, 19, 20, 21, 22, 7, 23, 24, 25, 26, 27, 28, 29, 30], [0], false, res70, fun x => impll70_0 K K x.1 x.2.1 x.2.2.1 x.2.2.2.1 x.2.2.2.2.1, [], none⟩
theorem q70_0 (K : Nat) (rc : (List Int) → (List Int) → (List Int) → Int → Int → Option ((List Int) × Int × Unit)) (x1 : (List Int)) (x2 : (List Int)) (x3 : (List Int)) (x4 : Int) (x5 : Int) : evLoop (L70_1 K) 3 70 Try.f70.results.toList (loopOf 0 (codeOf Try.f70)) 0 [0, 3, 8, 9, 10] [] i70_0 [0] false res70 (fun x => rc x.1 x.2.1 x.2.2.1 x.2.2.2.1 x.2.2.2.2.1) (x1, x2, x3, x4, x5, ()) = implb70_0 K rc x1 x2 x3 x4 x5 := by kernel_rfl
theorem lp70_0 : loopsIn (loopOf 0 (codeOf Try.f70)) 0 = [(2, loopOf 2 (codeOf Try.f70))] := by kernel_rfl
theorem n70_0_ok (K : Nat) : LentOk Try.prog Try.f70 (loopOf 0 (codeOf Try.f70)) (n70_0 K) := lentOk_k (slots := [0, 3, 8, 9, 10]) (ali := []) (ins := i70_0) (writes := [11, 12, 13, 14, 4, 5, 15, 16, 17, 18, 19, 20, 21, 22, 7, 23, 24, 25, 26, 27, 28, 29, 30]) (exits := [0]) (rets := false) (rs := res70) (d := 3) (lib70_1 K) lp70_0 ⟨one_lent (n70_2_ok K), trivial⟩ (by kernel_rfl) (by kernel_rfl) (by kernel_rfl) (by kernel_rfl) (by kernel_rfl) (fun k x => impll70_0 K k x.1 x.2.1 x.2.2.1 x.2.2.2.1 x.2.2.2.2.1) (fun _ => rfl) (fun k x => q70_0 K (impll70_0 K k) x.1 x.2.1 x.2.2.1 x.2.2.2.1 x.2.2.2.2.1) K
noncomputable def L70_2 (K : Nat) : Lib := mkLib ti [(81, [e81 K])] [] 70 [(2, [n70_2 K]), (0, [n70_0 K])]
theorem lib70_2 (K : Nat) : LibOk Try.prog (L70_2 K) := libOk_mk (ents := [(81, [e81 K])]) (bodies := []) (loops := [(2, [n70_2 K]), (0, [n70_0 K])]) order tiOk ⟨one_ent (e81_ok K), trivial⟩ trivial Try.func70 rfl lp70 ⟨one_lent (n70_0_ok K), one_lent (n70_2_ok K), trivial⟩
noncomputable def implf70 (K : Nat) (x1 : (List Int)) : Option ((List Int)) :=
  (ob (impll70_0 K K x1 [] x1 ((↑x1.length : Int)) ((0 : Int))) fun y1 => (ob (implf81 K y1.1) fun y2 => some (y2)))
theorem q70 (K : Nat) (x1 : (List Int)) : evFnK (α := (List Int)) (L70_2 K) 3 70 Try.f70.results.toList (codeOf Try.f70) ins70 res70 (fun p => p.1) (x1, ()) = implf70 K x1 := by kernel_rfl
noncomputable def e70 (K : Nat) : Ent := ⟨ins70, res70, (List Int), fun x => implf70 K x.1, fun _ => (fun y => (y, (()))), false⟩
theorem e70_ok (K : Nat) : EntOk Try.prog 70 (e70 K) := entOk_k (ins := ins70) (rs := res70) (α := (List Int)) (lib70_2 K) (d := 3) Try.func70 rfl (by kernel_rfl) (by kernel_rfl) (by kernel_rfl) (fun x => implf70 K x.1) (fun p => p.1) (fun y => (y, (()))) (fun _ => rfl) (fun x => q70 K x.1)

/-! slices.Clone[[]int,int] -/
abbrev ins83 : Fs := [(.dat (.sl (.int .i64)), false)]
abbrev res83 : Sh := .own (.int .i64)
noncomputable def implf83 (K : Nat) (x1 : List Int) : Option (List Int) := if ((List.replicate 0 (Ty.dflt (.int .i64))).length + x1.length) * 8 ≤ 140737488355328 then some (List.replicate 0 (Ty.dflt (.int .i64)) ++ x1) else none
noncomputable def e83 (K : Nat) : Ent := ⟨ins83, res83, List Int, fun x => implf83 K x.1, fun _ => (fun y => (y, ())), false⟩
noncomputable def CC83 : Code := match codeOf Try.f83 with | .seq _ (.seq (.seq _ (.cond _ x _)) _) => x | _ => .skip
noncomputable def YY83 : Code := match codeOf Try.f83 with | .seq _ (.seq _ y) => y | _ => .skip
noncomputable def L83_0 (K : Nat) : Lib := mkLib ti [] [] 83 []
theorem lp83 : loopsIn (codeOf Try.f83) 0 = [] := by kernel_rfl
theorem lib83_0 (K : Nat) : LibOk Try.prog (L83_0 K) := libOk_mk (ents := []) (bodies := []) (loops := []) order tiOk trivial trivial Try.func83 rfl lp83 trivial
theorem e83_ok (K : Nat) : EntOk Try.prog 83 (e83 K) := by
  refine clone_ok (e := .int .i64) (rs := .own (.int .i64)) (lib83_0 K) Try.func83 rfl (by kernel_rfl) (by kernel_rfl) lp83 Try.underlying22 rfl (fun x => implf83 K x) (fun y => (y, ())) (fun xs => by kernel_rfl) ?_
  intro xs b y hy hb
  cases b with
  | true =>
    have := hb rfl
    subst this
    have : y = [] := by
      unfold implf83 at hy
      split at hy
      · cases hy; rfl
      · cases hy
    subst this
    refine Eq.trans (b := some (([] : List Int), ())) ?_ rfl
    kernel_rfl
  | false =>
    unfold implf83 at hy
    split at hy
    · rename_i h
      cases hy
      have e1 : ∀ xs : List Int, ev (L83_0 K) (inPlace (L83_0 K) 1) 83 Try.f83.results.toList (.seq (.cond (.tmp 4) CC83 .skip) YY83) 0 (fun ex st => match ex with | .normal => ob (resAV (L83_0 K) st Try.f83.results.toList) fun v => finish [(.dat (.sl (.int .i64)), false)] (.own (.int .i64)) (.cons (.dat (.sl (.int .i64)) xs) .un) [] (resOne v) st | _ => none) (fun v st => finish [(.dat (.sl (.int .i64)), false)] (.own (.int .i64)) (.cons (.dat (.sl (.int .i64)) xs) .un) [] v st) ⟨[(4, .dat .bool false), (3, .dat (.sl (.int .i64)) xs), (2, .nil), (0, .dat (.sl (.int .i64)) xs)], [], 0⟩ = (if ((List.replicate 0 (Ty.dflt (.int .i64))).length + xs.length) * 8 ≤ 140737488355328 then some (List.replicate 0 (Ty.dflt (.int .i64)) ++ xs, ()) else none) := fun xs => by kernel_rfl
      exact (e1 xs).trans (if_pos h)
    · cases hy

/-! slices.Compact[[]int,int] -/
abbrev ins89 : Fs := [(.own (.int .i64), false)]
abbrev res89 : Sh := .own (.int .i64)
noncomputable def implf89 (K : Nat) (x1 : List Int) : Option (List Int) := if x1.length ≤ 1000 then some (compactI x1) else none
noncomputable def e89 (K : Nat) : Ent := ⟨ins89, res89, List Int, fun x => implf89 K x.1, fun _ => (fun y => (y, ())), true⟩
theorem e89_ok (K : Nat) : EntOk Try.prog 89 (e89 K) := compact_ent89

/-! diaphone/echo.shift -/
abbrev ins76 : Fs := [(.dat (.sl (.int .i64)), false), (.dat (.int .i64), false)]
abbrev res76 : Sh := .own (.int .i64)
theorem lp76 : loopsIn (codeOf Try.f76) 0 = [(0, loopOf 0 (codeOf Try.f76))] := by kernel_rfl
noncomputable def L76_0 (K : Nat) : Lib := mkLib ti [(83, [e83 K])] [] 76 []
theorem lib76_0 (K : Nat) : LibOk Try.prog (L76_0 K) := libOk_mk (ents := [(83, [e83 K])]) (bodies := []) (loops := []) order tiOk ⟨one_ent (e83_ok K), trivial⟩ trivial Try.func76 rfl lp76 ⟨no_lent, trivial⟩
abbrev i76_0 : Fs := [(.dat (.int Go.IntKind.i64), false), (.own (.int Go.IntKind.i64), true), (.dat (.int Go.IntKind.i64), false), (.dat (.int Go.IntKind.i64), true)]
noncomputable def implb76_0 (K : Nat) (rc : Int → (List Int) → Int → Int → Option ((List Int) × Int × Unit)) (x1 : Int) (x2 : (List Int)) (x3 : Int) (x4 : Int) : Option ((List Int) × Int × Unit) :=
  (bif decide (x4 < x3) then (if (0 : Int) ≤ x4 ∧ x4 < (↑x2.length : Int) then (if (0 : Int) ≤ x4 ∧ x4 < (↑x2.length : Int) then (rc x1 (x2.set x4.toNat (IntKind.i64.wrap (x2.getD x4.toNat ((0 : Int)) + x1))) x3 (IntKind.i64.wrap (x4 + (1 : Int)))) else none) else none) else some ((x2, x4, ())))
noncomputable def impll76_0 (K : Nat) : Nat → Int → (List Int) → Int → Int → Option ((List Int) × Int × Unit)
  | 0, _, _, _, _ => none
  | k + 1, x1, x2, x3, x4 => implb76_0 K (impll76_0 K k) x1 x2 x3 x4
noncomputable def n76_0 (K : Nat) : Lent := ⟨[1, 5, 10, 11], i76_0, [12, 13, 6, 14, 15, 16, 17, 18, 19, 20, 21], [0], false, res76, fun x => impll76_0 K K x.1 x.2.1 x.2.2.1 x.2.2.2.1, [], none⟩
theorem q76_0 (K : Nat) (rc : Int → (List Int) → Int → Int → Option ((List Int) × Int × Unit)) (x1 : Int) (x2 : (List Int)) (x3 : Int) (x4 : Int) : evLoop (L76_0 K) 3 76 Try.f76.results.toList (loopOf 0 (codeOf Try.f76)) 0 [1, 5, 10, 11] [] i76_0 [0] false res76 (fun x => rc x.1 x.2.1 x.2.2.1 x.2.2.2.1) (x1, x2, x3, x4, ()) = implb76_0 K rc x1 x2 x3 x4 := by kernel_rfl
theorem lp76_0 : loopsIn (loopOf 0 (codeOf Try.f76)) 0 = [] := by kernel_rfl
theorem n76_0_ok (K : Nat) : LentOk Try.prog Try.f76 (loopOf 0 (codeOf Try.f76)) (n76_0 K) := lentOk_k (slots := [1, 5, 10, 11]) (ali := []) (ins := i76_0) (writes := [12, 13, 6, 14, 15, 16, 17, 18, 19, 20, 21]) (exits := [0]) (rets := false) (rs := res76) (d := 3) (lib76_0 K) lp76_0 trivial (by kernel_rfl) (by kernel_rfl) (by kernel_rfl) (by kernel_rfl) (by kernel_rfl) (fun k x => impll76_0 K k x.1 x.2.1 x.2.2.1 x.2.2.2.1) (fun _ => rfl) (fun k x => q76_0 K (impll76_0 K k) x.1 x.2.1 x.2.2.1 x.2.2.2.1) K
noncomputable def L76_1 (K : Nat) : Lib := mkLib ti [(83, [e83 K])] [] 76 [(0, [n76_0 K])]
theorem lib76_1 (K : Nat) : LibOk Try.prog (L76_1 K) := libOk_mk (ents := [(83, [e83 K])]) (bodies := []) (loops := [(0, [n76_0 K])]) order tiOk ⟨one_ent (e83_ok K), trivial⟩ trivial Try.func76 rfl lp76 ⟨one_lent (n76_0_ok K), trivial⟩
noncomputable def implf76 (K : Nat) (x1 : (List Int)) (x2 : Int) : Option ((List Int)) :=
  (ob (implf83 K x1) fun y1 => (ob (impll76_0 K K x2 y1 ((↑y1.length : Int)) ((0 : Int))) fun y2 => some (y2.1)))
theorem q76 (K : Nat) (x1 : (List Int)) (x2 : Int) : evFnK (α := (List Int)) (L76_1 K) 3 76 Try.f76.results.toList (codeOf Try.f76) ins76 res76 (fun p => p.1) (x1, x2, ()) = implf76 K x1 x2 := by kernel_rfl
noncomputable def e76 (K : Nat) : Ent := ⟨ins76, res76, (List Int), fun x => implf76 K x.1 x.2.1, fun _ => (fun y => (y, (()))), false⟩
theorem e76_ok (K : Nat) : EntOk Try.prog 76 (e76 K) := entOk_k (ins := ins76) (rs := res76) (α := (List Int)) (lib76_1 K) (d := 3) Try.func76 rfl (by kernel_rfl) (by kernel_rfl) (by kernel_rfl) (fun x => implf76 K x.1 x.2.1) (fun p => p.1) (fun y => (y, (()))) (fun _ => rfl) (fun x => q76 K x.1 x.2.1)

/-! diaphone/echo.mirror -/
abbrev ins77 : Fs := [(.dat (.sl (.int .i64)), false)]
abbrev res77 : Sh := .own (.int .i64)
theorem lp77 : loopsIn (codeOf Try.f77) 0 = [] := by kernel_rfl
noncomputable def L77_0 (K : Nat) : Lib := mkLibR ti [] [(99, Try.f99), (113, Try.f113)] 77 [] [(77, 0, rd77)] [113] [] []
theorem lib77_0 (K : Nat) : LibOk Try.prog (L77_0 K) := libOk_mkR (ents := []) (bodies := [(99, Try.f99), (113, Try.f113)]) (loops := []) order tiOk trivial ⟨bod99, bod113, trivial⟩ Try.func77 rfl lp77 trivial (rngs := [(77, 0, rd77)]) ⟨rd77_at, trivial⟩ (frz := [113]) (opts := []) trivial
noncomputable def implf77 (K : Nat) (x1 : (List Int)) : Option ((List Int)) :=
  (bif match x1.length.ble 1000 with
| true => decide (0 < x1.length ∧ x1.length ≤ 1000)
| false => false then some (List.map (fun q => mirV x1 q.2) (backL x1 x1.length)) else none)
theorem q77 (K : Nat) (x1 : (List Int)) : evFnK (α := (List Int)) (L77_0 K) 3 77 Try.f77.results.toList (codeOf Try.f77) ins77 res77 (fun p => p.1) (x1, ()) = implf77 K x1 := by kernel_rfl
noncomputable def e77 (K : Nat) : Ent := ⟨ins77, res77, (List Int), fun x => implf77 K x.1, fun _ => (fun y => (y, (()))), false⟩
theorem e77_ok (K : Nat) : EntOk Try.prog 77 (e77 K) := entOk_k (ins := ins77) (rs := res77) (α := (List Int)) (lib77_0 K) (d := 3) Try.func77 rfl (by kernel_rfl) (by kernel_rfl) (by kernel_rfl) (fun x => implf77 K x.1) (fun p => p.1) (fun y => (y, (()))) (fun _ => rfl) (fun x => q77 K x.1)

/-! diaphone/echo.normal -/
abbrev ins74 : Fs := [(.dat (.sl (.int .i64)), false)]
abbrev res74 : Sh := .own (.int .i64)
theorem lp74 : loopsIn (codeOf Try.f74) 0 = [] := by kernel_rfl
noncomputable def L74_0 (K : Nat) : Lib := mkLib ti [(76, [e76 K]), (77, [e77 K]), (94, [e94 K])] [] 74 []
theorem lib74_0 (K : Nat) : LibOk Try.prog (L74_0 K) := libOk_mk (ents := [(76, [e76 K]), (77, [e77 K]), (94, [e94 K])]) (bodies := []) (loops := []) order tiOk ⟨one_ent (e76_ok K), one_ent (e77_ok K), one_ent (e94_ok K), trivial⟩ trivial Try.func74 rfl lp74 trivial
noncomputable def implf74 (K : Nat) (x1 : (List Int)) : Option ((List Int)) :=
  (if (0 : Int) ≤ (0 : Int) ∧ (0 : Int) < (↑x1.length : Int) then (ob (implf76 K x1 (IntKind.i64.wrap ((0 : Int) - x1.getD (0) ((0 : Int))))) fun y1 => (ob (implf77 K y1) fun y2 => (ob (implf94 K y2 y1) fun y3 => (bif decide (y3 < (0 : Int)) then some (y2) else some (y1))))) else none)
theorem q74 (K : Nat) (x1 : (List Int)) : evFnK (α := (List Int)) (L74_0 K) 3 74 Try.f74.results.toList (codeOf Try.f74) ins74 res74 (fun p => p.1) (x1, ()) = implf74 K x1 := by kernel_rfl
noncomputable def e74 (K : Nat) : Ent := ⟨ins74, res74, (List Int), fun x => implf74 K x.1, fun _ => (fun y => (y, (()))), false⟩
theorem e74_ok (K : Nat) : EntOk Try.prog 74 (e74 K) := entOk_k (ins := ins74) (rs := res74) (α := (List Int)) (lib74_0 K) (d := 3) Try.func74 rfl (by kernel_rfl) (by kernel_rfl) (by kernel_rfl) (fun x => implf74 K x.1) (fun p => p.1) (fun y => (y, (()))) (fun _ => rfl) (fun x => q74 K x.1)

/-! diaphone/echo.ruler -/
abbrev ins62 : Fs := [(.dat (.sl (.int .i64)), false), (.dat (.int .i64), false), (.dat (.int .i64), false)]
abbrev res62 : Sh := .dat (.sl (.int .i64))
noncomputable def o62r (K : Nat) (rs : (List Int) → Int → Int → Option (Option (List Int))) : Opt := ⟨ins62, .int .i64, fun x => rs x.1 x.2.1 x.2.2.1⟩
theorem lp62 : loopsIn (codeOf Try.f62) 0 = [(0, loopOf 0 (codeOf Try.f62))] := by kernel_rfl
noncomputable def L62_0 (K : Nat) (rs : (List Int) → Int → Int → Option (Option (List Int))) : Lib := mkLibR ti [(70, [e70 K]), (83, [e83 K]), (89, [e89 K]), (69, [e69 K]), (74, [e74 K])] [(67, Try.f67)] 62 [] [] [] [(62, o62r K rs)] []
theorem lib62_0 (K : Nat) (rs : (List Int) → Int → Int → Option (Option (List Int))) (hrs : OptOk Try.prog 62 (o62r K rs)) : LibOk Try.prog (L62_0 K rs) := libOk_mkR (ents := [(70, [e70 K]), (83, [e83 K]), (89, [e89 K]), (69, [e69 K]), (74, [e74 K])]) (bodies := [(67, Try.f67)]) (loops := []) order tiOk ⟨one_ent (e70_ok K), one_ent (e83_ok K), one_ent (e89_ok K), one_ent (e69_ok K), one_ent (e74_ok K), trivial⟩ ⟨bod67, trivial⟩ Try.func62 rfl lp62 ⟨no_lent, trivial⟩ (rngs := []) trivial (frz := []) (opts := [(62, o62r K rs)]) ⟨hrs, trivial⟩
abbrev i62_0 : Fs := [(.dat (.sl (.int Go.IntKind.i64)), false), (.dat (.int Go.IntKind.i64), false), (.dat (.int Go.IntKind.i64), false), (.dat (.int Go.IntKind.i64), true)]
noncomputable def implb62_0 (K : Nat) (rs : (List Int) → Int → Int → Option (Option (List Int))) (rc : (List Int) → Int → Int → Int → Option (Sum (Int × Unit) (List Int))) (x1 : (List Int)) (x2 : Int) (x3 : Int) (x4 : Int) : Option (Sum (Int × Unit) (List Int)) :=
  (bif decide (x4 ≤ x3) then (ob (implf83 K x1) fun y1 => (if (y1.length + ((List.replicate 1 ((0 : Int))).set 0 x4).length) * 8 ≤ 140737488355328 then (ob (implf70 K (y1 ++ (List.replicate 1 ((0 : Int))).set 0 x4)) fun y2 => (ob (implf83 K y2) fun y3 => (ob (implf89 K y3) fun y4 => (bif (↑y4.length : Int) == (↑y2.length : Int) then (ob (rs (y1 ++ (List.replicate 1 ((0 : Int))).set 0 x4) x2 x3) fun y5 => (oel (y5) (rc x1 x2 x3 (IntKind.i64.wrap (x4 + (1 : Int)))) fun y6 => (if 0 < y6.length then some (Sum.inr y6) else none))) else (rc x1 x2 x3 (IntKind.i64.wrap (x4 + (1 : Int)))))))) else none)) else some (Sum.inl (x4, ())))
noncomputable def impll62_0 (K : Nat) (rs : (List Int) → Int → Int → Option (Option (List Int))) : Nat → (List Int) → Int → Int → Int → Option (Sum (Int × Unit) (List Int))
  | 0, _, _, _, _ => none
  | k + 1, x1, x2, x3, x4 => implb62_0 K rs (impll62_0 K rs k) x1 x2 x3 x4
noncomputable def n62_0 (K : Nat) (rs : (List Int) → Int → Int → Option (Option (List Int))) : Lent := ⟨[0, 1, 2, 7], i62_0, [35, 36, 37, 40, 41, 42, 43, 44, 8, 45, 46, 47, 48, 49, 50, 9, 51, 52, 53, 6, 38, 39], [0], true, res62, fun x => impll62_0 K rs K x.1 x.2.1 x.2.2.1 x.2.2.2.1, [], none⟩
theorem q62_0 (K : Nat) (rs : (List Int) → Int → Int → Option (Option (List Int))) (rc : (List Int) → Int → Int → Int → Option (Sum (Int × Unit) (List Int))) (x1 : (List Int)) (x2 : Int) (x3 : Int) (x4 : Int) : evLoop (L62_0 K rs) 3 62 Try.f62.results.toList (loopOf 0 (codeOf Try.f62)) 0 [0, 1, 2, 7] [] i62_0 [0] true res62 (fun x => rc x.1 x.2.1 x.2.2.1 x.2.2.2.1) (x1, x2, x3, x4, ()) = implb62_0 K rs rc x1 x2 x3 x4 := by kernel_rfl
theorem lp62_0 : loopsIn (loopOf 0 (codeOf Try.f62)) 0 = [] := by kernel_rfl
theorem n62_0_ok (K : Nat) (rs : (List Int) → Int → Int → Option (Option (List Int))) (hrs : OptOk Try.prog 62 (o62r K rs)) : LentOk Try.prog Try.f62 (loopOf 0 (codeOf Try.f62)) (n62_0 K rs) := lentOk_kR (slots := [0, 1, 2, 7]) (ali := []) (ins := i62_0) (writes := [35, 36, 37, 40, 41, 42, 43, 44, 8, 45, 46, 47, 48, 49, 50, 9, 51, 52, 53, 6, 38, 39]) (exits := [0]) (rets := true) (rs := res62) (d := 3) (lib62_0 K rs hrs) Try.func62 rfl (.inl (by kernel_rfl)) lp62_0 trivial (by kernel_rfl) (by kernel_rfl) (by kernel_rfl) (by kernel_rfl) (by kernel_rfl) (fun k x => impll62_0 K rs k x.1 x.2.1 x.2.2.1 x.2.2.2.1) (fun _ => rfl) (fun k x => q62_0 K rs (impll62_0 K rs k) x.1 x.2.1 x.2.2.1 x.2.2.2.1) K
noncomputable def L62_1 (K : Nat) (rs : (List Int) → Int → Int → Option (Option (List Int))) : Lib := mkLibR ti [(70, [e70 K]), (83, [e83 K]), (89, [e89 K]), (69, [e69 K]), (74, [e74 K])] [(67, Try.f67)] 62 [(0, [n62_0 K rs])] [] [] [(62, o62r K rs)] []
theorem lib62_1 (K : Nat) (rs : (List Int) → Int → Int → Option (Option (List Int))) (hrs : OptOk Try.prog 62 (o62r K rs)) : LibOk Try.prog (L62_1 K rs) := libOk_mkR (ents := [(70, [e70 K]), (83, [e83 K]), (89, [e89 K]), (69, [e69 K]), (74, [e74 K])]) (bodies := [(67, Try.f67)]) (loops := [(0, [n62_0 K rs])]) order tiOk ⟨one_ent (e70_ok K), one_ent (e83_ok K), one_ent (e89_ok K), one_ent (e69_ok K), one_ent (e74_ok K), trivial⟩ ⟨bod67, trivial⟩ Try.func62 rfl lp62 ⟨one_lent (n62_0_ok K rs hrs), trivial⟩ (rngs := []) trivial (frz := []) (opts := [(62, o62r K rs)]) ⟨hrs, trivial⟩
noncomputable def implg62 (K : Nat) (rs : (List Int) → Int → Int → Option (Option (List Int))) (x1 : (List Int)) (x2 : Int) (x3 : Int) : Option (Option (List Int)) :=
  (bif (↑x1.length : Int) == x2 then (if (0 : Int) ≤ IntKind.i64.wrap (x2 - (1 : Int)) ∧ IntKind.i64.wrap (x2 - (1 : Int)) < (↑x1.length : Int) then (bif x1.getD (IntKind.i64.wrap (x2 - (1 : Int))).toNat ((0 : Int)) == x3 then (ob (implf74 K x1) fun y1 => (ob (implf69 K y1 x1) fun y2 => (bif y2 then (bif decide (0 < x1.length) then some (some x1) else none) else some (none)))) else some (none)) else none) else (if (0 : Int) ≤ IntKind.i64.wrap ((↑x1.length : Int) - (1 : Int)) ∧ IntKind.i64.wrap ((↑x1.length : Int) - (1 : Int)) < (↑x1.length : Int) then (ob (impll62_0 K rs K x1 x2 x3 (IntKind.i64.wrap (x1.getD (IntKind.i64.wrap ((↑x1.length : Int) - (1 : Int))).toNat ((0 : Int)) + (1 : Int)))) fun y3 => (match y3 with | .inl y4 => some (none) | .inr y4 => (bif decide (0 < y4.length) then some (some y4) else none))) else none))
theorem q62 (K : Nat) (rs : (List Int) → Int → Int → Option (Option (List Int))) (x1 : (List Int)) (x2 : Int) (x3 : Int) : evFnO (L62_1 K rs) 3 62 Try.f62.results.toList (codeOf Try.f62) ins62 (.int .i64) (x1, x2, x3, ()) = implg62 K rs x1 x2 x3 := by kernel_rfl
noncomputable def implr62 (K : Nat) : Nat → (List Int) → Int → Int → Option (Option (List Int))
  | 0, _, _, _ => none
  | k + 1, x1, x2, x3 => implg62 K (implr62 K k) x1 x2 x3
noncomputable def implf62 (K : Nat) (x1 : (List Int)) (x2 : Int) (x3 : Int) : Option (Option (List Int)) := implr62 K K x1 x2 x3
theorem o62_step (K : Nat) (rs : (List Int) → Int → Int → Option (Option (List Int))) (hrs : OptOk Try.prog 62 (o62r K rs)) : OptOk Try.prog 62 (o62r K (implg62 K rs)) := optOk_k (ins := ins62) (et := .int .i64) (lib62_1 K rs hrs) (d := 3) Try.func62 rfl (by kernel_rfl) (by kernel_rfl) (fun x => implg62 K rs x.1 x.2.1 x.2.2.1) (fun x => q62 K rs x.1 x.2.1 x.2.2.1)
theorem o62_rec (K : Nat) : ∀ k, OptOk Try.prog 62 (o62r K (implr62 K k))
  | 0 => opt_none Try.func62 rfl (by kernel_rfl) (fun _ => rfl)
  | k + 1 => o62_step K (implr62 K k) (o62_rec K k)
noncomputable def o62 (K : Nat) : Opt := ⟨ins62, .int .i64, fun x => implf62 K x.1 x.2.1 x.2.2.1⟩
theorem o62_ok (K : Nat) : OptOk Try.prog 62 (o62 K) := o62_rec K K

/-! diaphone/echo.within -/
abbrev ins61 : Fs := [(.dat (.int .i64), false), (.dat (.int .i64), false), (.dat (.int .i64), false)]
abbrev res61 : Sh := .dat (.bool)
theorem lp61 : loopsIn (codeOf Try.f61) 0 = [] := by kernel_rfl
noncomputable def L61_0 (K : Nat) : Lib := mkLib ti [] [] 61 []
theorem lib61_0 (K : Nat) : LibOk Try.prog (L61_0 K) := libOk_mk (ents := []) (bodies := []) (loops := []) order tiOk trivial trivial Try.func61 rfl lp61 trivial
noncomputable def implf61 (K : Nat) (x1 : Int) (x2 : Int) (x3 : Int) : Option (Bool) :=
  (bif decide (x1 ≥ x2) then some (decide (x1 ≤ x3)) else some (false))
theorem q61 (K : Nat) (x1 : Int) (x2 : Int) (x3 : Int) : evFnK (α := Bool) (L61_0 K) 3 61 Try.f61.results.toList (codeOf Try.f61) ins61 res61 (fun p => p.1) (x1, x2, x3, ()) = implf61 K x1 x2 x3 := by kernel_rfl
noncomputable def e61 (K : Nat) : Ent := ⟨ins61, res61, Bool, fun x => implf61 K x.1 x.2.1 x.2.2.1, fun _ => (fun y => (y, (()))), false⟩
theorem e61_ok (K : Nat) : EntOk Try.prog 61 (e61 K) := entOk_k (ins := ins61) (rs := res61) (α := Bool) (lib61_0 K) (d := 3) Try.func61 rfl (by kernel_rfl) (by kernel_rfl) (by kernel_rfl) (fun x => implf61 K x.1 x.2.1 x.2.2.1) (fun p => p.1) (fun y => (y, (()))) (fun _ => rfl) (fun x => q61 K x.1 x.2.1 x.2.2.1)

/-! diaphone/echo.Shortest -/
abbrev ins25 : Fs := [(.dat (.int .i64), false)]
abbrev res25 : Sh := .cons (.dat (.sl (.int .i64))) (.cons (.dat (.int .i64)) (.un))
theorem lp25 : loopsIn (codeOf Try.f25) 0 = [(0, loopOf 0 (codeOf Try.f25))] := by kernel_rfl
noncomputable def L25_0 (K : Nat) : Lib := mkLibR ti [(61, [e61 K])] [] 25 [] [] [] [(62, o62 K)] []
theorem lib25_0 (K : Nat) : LibOk Try.prog (L25_0 K) := libOk_mkR (ents := [(61, [e61 K])]) (bodies := []) (loops := []) order tiOk ⟨one_ent (e61_ok K), trivial⟩ trivial Try.func25 rfl lp25 ⟨no_lent, trivial⟩ (rngs := []) trivial (frz := []) (opts := [(62, o62 K)]) ⟨o62_ok K, trivial⟩
abbrev i25_0 : Fs := [(.dat (.int Go.IntKind.i64), false), (.dat (.int Go.IntKind.i64), true)]
noncomputable def implb25_0 (K : Nat) (rc : Int → Int → Option ((List Int) × Int × Unit)) (x1 : Int) (x2 : Int) : Option ((List Int) × Int × Unit) :=
  (ob (implf62 K ((List.replicate 1 ((0 : Int))).set 0 ((0 : Int))) x1 x2) fun y1 => (oel (y1) (rc x1 (IntKind.i64.wrap (x2 + (1 : Int)))) fun y2 => (if 0 < y2.length then some ((y2, (0 : Int), ())) else none)))
noncomputable def impll25_0 (K : Nat) : Nat → Int → Int → Option ((List Int) × Int × Unit)
  | 0, _, _ => none
  | k + 1, x1, x2 => implb25_0 K (impll25_0 K k) x1 x2
noncomputable def n25_0 (K : Nat) : Lent := ⟨[0, 4], i25_0, [11, 12, 13, 14, 5, 15, 16, 17, 2, 3, 9, 10], [], true, res25, fun x => impll25_0 K K x.1 x.2.1, [], none⟩
theorem q25_0 (K : Nat) (rc : Int → Int → Option ((List Int) × Int × Unit)) (x1 : Int) (x2 : Int) : evLoop (L25_0 K) 3 25 Try.f25.results.toList (loopOf 0 (codeOf Try.f25)) 0 [0, 4] [] i25_0 [] true res25 (fun x => rc x.1 x.2.1) (x1, x2, ()) = implb25_0 K rc x1 x2 := by kernel_rfl
theorem lp25_0 : loopsIn (loopOf 0 (codeOf Try.f25)) 0 = [] := by kernel_rfl
theorem n25_0_ok (K : Nat) : LentOk Try.prog Try.f25 (loopOf 0 (codeOf Try.f25)) (n25_0 K) := lentOk_kR (slots := [0, 4]) (ali := []) (ins := i25_0) (writes := [11, 12, 13, 14, 5, 15, 16, 17, 2, 3, 9, 10]) (exits := []) (rets := true) (rs := res25) (d := 3) (lib25_0 K) Try.func25 rfl (.inl (by kernel_rfl)) lp25_0 trivial (by kernel_rfl) (by kernel_rfl) (by kernel_rfl) (by kernel_rfl) (by kernel_rfl) (fun k x => impll25_0 K k x.1 x.2.1) (fun _ => rfl) (fun k x => q25_0 K (impll25_0 K k) x.1 x.2.1) K
noncomputable def L25_1 (K : Nat) : Lib := mkLibR ti [(61, [e61 K])] [] 25 [(0, [n25_0 K])] [] [] [(62, o62 K)] []
theorem lib25_1 (K : Nat) : LibOk Try.prog (L25_1 K) := libOk_mkR (ents := [(61, [e61 K])]) (bodies := []) (loops := [(0, [n25_0 K])]) order tiOk ⟨one_ent (e61_ok K), trivial⟩ trivial Try.func25 rfl lp25 ⟨one_lent (n25_0_ok K), trivial⟩ (rngs := []) trivial (frz := []) (opts := [(62, o62 K)]) ⟨o62_ok K, trivial⟩
noncomputable def implf25 (K : Nat) (x1 : Int) : Option ((List Int) × Int) :=
  (ob (implf61 K x1 ((1 : Int)) ((5 : Int))) fun y1 => (bif !y1 then some (([], (1 : Int))) else (ob (impll25_0 K K x1 ((0 : Int))) fun y2 => some ((y2.1, y2.2.1)))))
theorem q25 (K : Nat) (x1 : Int) : evFnK (α := (List Int) × Int) (L25_1 K) 3 25 Try.f25.results.toList (codeOf Try.f25) ins25 res25 (fun p => (p.1.1, p.1.2.1)) (x1, ()) = implf25 K x1 := by kernel_rfl
noncomputable def e25 (K : Nat) : Ent := ⟨ins25, res25, (List Int) × Int, fun x => implf25 K x.1, fun _ => (fun y => ((y.1, y.2, ()), (()))), false⟩
theorem e25_ok (K : Nat) : EntOk Try.prog 25 (e25 K) := entOk_k (ins := ins25) (rs := res25) (α := (List Int) × Int) (lib25_1 K) (d := 3) Try.func25 rfl (by kernel_rfl) (by kernel_rfl) (by kernel_rfl) (fun x => implf25 K x.1) (fun p => (p.1.1, p.1.2.1)) (fun y => ((y.1, y.2, ()), (()))) (fun _ => rfl) (fun x => q25 K x.1)

/-! diaphone/echo.every$1 -/
abbrev ins96 : Fs := [(.dat (.sl (.int .i64)), false), (.box (.own (.sl (.int .i64))), true)]
abbrev res96 : Sh := .nix
theorem lp96 : loopsIn (codeOf Try.f96) 0 = [] := by kernel_rfl
noncomputable def L96_0 (K : Nat) : Lib := mkLib ti [(74, [e74 K])] [] 96 []
theorem lib96_0 (K : Nat) : LibOk Try.prog (L96_0 K) := libOk_mk (ents := [(74, [e74 K])]) (bodies := []) (loops := []) order tiOk ⟨one_ent (e74_ok K), trivial⟩ trivial Try.func96 rfl lp96 trivial
noncomputable def implf96 (K : Nat) (x1 : (List Int)) (x2 : (List (List Int))) : Option ((List (List Int))) :=
  (ob (implf74 K x1) fun y1 => (if (x2.length + ((List.replicate 1 []).set 0 y1).length) * 24 ≤ 140737488355328 then some (x2 ++ (List.replicate 1 []).set 0 y1) else none))
theorem q96 (K : Nat) (x1 : (List Int)) (x2 : (List (List Int))) : evFnK (α := (List (List Int))) (L96_0 K) 3 96 Try.f96.results.toList (codeOf Try.f96) ins96 res96 (fun p => p.2.1) (x1, x2, ()) = implf96 K x1 x2 := by kernel_rfl
noncomputable def e96 (K : Nat) : Ent := ⟨ins96, res96, (List (List Int)), fun x => implf96 K x.1 x.2.1, fun _ => (fun y => ((), (y, ()))), false⟩
theorem e96_ok (K : Nat) : EntOk Try.prog 96 (e96 K) := entOk_k (ins := ins96) (rs := res96) (α := (List (List Int))) (lib96_0 K) (d := 3) Try.func96 rfl (by kernel_rfl) (by kernel_rfl) (by kernel_rfl) (fun x => implf96 K x.1 x.2.1) (fun p => p.2.1) (fun y => ((), (y, ()))) (fun _ => rfl) (fun x => q96 K x.1 x.2.1)

/-! cmp.Less[int] -/
abbrev ins103 : Fs := [(.dat (.int .i64), false), (.dat (.int .i64), false)]
abbrev res103 : Sh := .dat (.bool)
theorem lp103 : loopsIn (codeOf Try.f103) 0 = [] := by kernel_rfl
noncomputable def L103_0 (K : Nat) : Lib := mkLib ti [] [(124, Try.f124)] 103 []
theorem lib103_0 (K : Nat) : LibOk Try.prog (L103_0 K) := libOk_mk (ents := []) (bodies := [(124, Try.f124)]) (loops := []) order tiOk trivial ⟨bod124, trivial⟩ Try.func103 rfl lp103 trivial
noncomputable def implf103 (K : Nat) (x1 : Int) (x2 : Int) : Option (Bool) :=
  (bif x1 != x1 then (bif !x2 != x2 then some (true) else some (decide (x1 < x2))) else some (decide (x1 < x2)))
theorem q103 (K : Nat) (x1 : Int) (x2 : Int) : evFnK (α := Bool) (L103_0 K) 3 103 Try.f103.results.toList (codeOf Try.f103) ins103 res103 (fun p => p.1) (x1, x2, ()) = implf103 K x1 x2 := by kernel_rfl
noncomputable def e103 (K : Nat) : Ent := ⟨ins103, res103, Bool, fun x => implf103 K x.1 x.2.1, fun _ => (fun y => (y, (()))), false⟩
theorem e103_ok (K : Nat) : EntOk Try.prog 103 (e103 K) := entOk_k (ins := ins103) (rs := res103) (α := Bool) (lib103_0 K) (d := 3) Try.func103 rfl (by kernel_rfl) (by kernel_rfl) (by kernel_rfl) (fun x => implf103 K x.1 x.2.1) (fun p => p.1) (fun y => (y, (()))) (fun _ => rfl) (fun x => q103 K x.1 x.2.1)

/-! slices.BinarySearch[[]int,int] -/
abbrev ins84 : Fs := [(.dat (.sl (.int .i64)), false), (.dat (.int .i64), false)]
abbrev res84 : Sh := .cons (.dat (.int .i64)) (.cons (.dat (.bool)) (.un))
theorem lp84 : loopsIn (codeOf Try.f84) 0 = [(0, loopOf 0 (codeOf Try.f84))] := by kernel_rfl
noncomputable def L84_0 (K : Nat) : Lib := mkLib ti [(103, [e103 K])] [(104, Try.f104)] 84 []
theorem lib84_0 (K : Nat) : LibOk Try.prog (L84_0 K) := libOk_mk (ents := [(103, [e103 K])]) (bodies := [(104, Try.f104)]) (loops := []) order tiOk ⟨one_ent (e103_ok K), trivial⟩ ⟨bod104, trivial⟩ Try.func84 rfl lp84 ⟨no_lent, trivial⟩
abbrev i84_0 : Fs := [(.dat (.sl (.int Go.IntKind.i64)), false), (.dat (.int Go.IntKind.i64), false), (.dat (.int Go.IntKind.i64), false), (.dat (.int Go.IntKind.i64), true), (.dat (.int Go.IntKind.i64), true)]
noncomputable def implb84_0 (K : Nat) (rc : (List Int) → Int → Int → Int → Int → Option (Int × Int × Unit)) (x1 : (List Int)) (x2 : Int) (x3 : Int) (x4 : Int) (x5 : Int) : Option (Int × Int × Unit) :=
  (bif decide (x4 < x5) then (if (0 : Int) ≤ IntKind.i64.wrap ((IntKind.u64.wrap (IntKind.i64.wrap (x4 + x5))).fdiv ((2 : Int) ^ min (1) IntKind.u64.bits)) ∧ IntKind.i64.wrap ((IntKind.u64.wrap (IntKind.i64.wrap (x4 + x5))).fdiv ((2 : Int) ^ min (1) IntKind.u64.bits)) < (↑x1.length : Int) then (ob (implf103 K (x1.getD (IntKind.i64.wrap ((IntKind.u64.wrap (IntKind.i64.wrap (x4 + x5))).fdiv ((2 : Int) ^ min (1) IntKind.u64.bits))).toNat ((0 : Int))) x2) fun y1 => (bif y1 then (rc x1 x2 x3 (IntKind.i64.wrap (IntKind.i64.wrap ((IntKind.u64.wrap (IntKind.i64.wrap (x4 + x5))).fdiv ((2 : Int) ^ min (1) IntKind.u64.bits)) + (1 : Int))) x5) else (rc x1 x2 x3 x4 (IntKind.i64.wrap ((IntKind.u64.wrap (IntKind.i64.wrap (x4 + x5))).fdiv ((2 : Int) ^ min (1) IntKind.u64.bits)))))) else none) else some ((x4, x5, ())))
noncomputable def impll84_0 (K : Nat) : Nat → (List Int) → Int → Int → Int → Int → Option (Int × Int × Unit)
  | 0, _, _, _, _, _ => none
  | k + 1, x1, x2, x3, x4, x5 => implb84_0 K (impll84_0 K k) x1 x2 x3 x4 x5
noncomputable def n84_0 (K : Nat) : Lent := ⟨[0, 1, 6, 7, 8], i84_0, [13, 14, 15, 16, 17, 18, 19, 20, 21, 9, 22, 23, 24, 25, 26, 27, 28, 29, 30], [0], false, res84, fun x => impll84_0 K K x.1 x.2.1 x.2.2.1 x.2.2.2.1 x.2.2.2.2.1, [], none⟩
theorem q84_0 (K : Nat) (rc : (List Int) → Int → Int → Int → Int → Option (Int × Int × Unit)) (x1 : (List Int)) (x2 : Int) (x3 : Int) (x4 : Int) (x5 : Int) : evLoop (L84_0 K) 3 84 Try.f84.results.toList (loopOf 0 (codeOf Try.f84)) 0 [0, 1, 6, 7, 8] [] i84_0 [0] false res84 (fun x => rc x.1 x.2.1 x.2.2.1 x.2.2.2.1 x.2.2.2.2.1) (x1, x2, x3, x4, x5, ()) = implb84_0 K rc x1 x2 x3 x4 x5 := by kernel_rfl
theorem lp84_0 : loopsIn (loopOf 0 (codeOf Try.f84)) 0 = [] := by kernel_rfl
theorem n84_0_ok (K : Nat) : LentOk Try.prog Try.f84 (loopOf 0 (codeOf Try.f84)) (n84_0 K) := lentOk_k (slots := [0, 1, 6, 7, 8]) (ali := []) (ins := i84_0) (writes := [13, 14, 15, 16, 17, 18, 19, 20, 21, 9, 22, 23, 24, 25, 26, 27, 28, 29, 30]) (exits := [0]) (rets := false) (rs := res84) (d := 3) (lib84_0 K) lp84_0 trivial (by kernel_rfl) (by kernel_rfl) (by kernel_rfl) (by kernel_rfl) (by kernel_rfl) (fun k x => impll84_0 K k x.1 x.2.1 x.2.2.1 x.2.2.2.1 x.2.2.2.2.1) (fun _ => rfl) (fun k x => q84_0 K (impll84_0 K k) x.1 x.2.1 x.2.2.1 x.2.2.2.1 x.2.2.2.2.1) K
noncomputable def L84_1 (K : Nat) : Lib := mkLib ti [(103, [e103 K])] [(104, Try.f104)] 84 [(0, [n84_0 K])]
theorem lib84_1 (K : Nat) : LibOk Try.prog (L84_1 K) := libOk_mk (ents := [(103, [e103 K])]) (bodies := [(104, Try.f104)]) (loops := [(0, [n84_0 K])]) order tiOk ⟨one_ent (e103_ok K), trivial⟩ ⟨bod104, trivial⟩ Try.func84 rfl lp84 ⟨one_lent (n84_0_ok K), trivial⟩
noncomputable def implf84 (K : Nat) (x1 : (List Int)) (x2 : Int) : Option (Int × Bool) :=
  (ob (impll84_0 K K x1 x2 ((↑x1.length : Int)) ((0 : Int)) ((↑x1.length : Int))) fun y1 => (bif decide (y1.1 < (↑x1.length : Int)) then (if (0 : Int) ≤ y1.1 ∧ y1.1 < (↑x1.length : Int) then (bif x1.getD y1.1.toNat ((0 : Int)) == x2 then some ((y1.1, true)) else (if (0 : Int) ≤ y1.1 ∧ y1.1 < (↑x1.length : Int) then (bif x1.getD y1.1.toNat ((0 : Int)) != x1.getD y1.1.toNat ((0 : Int)) then some ((y1.1, x2 != x2)) else some ((y1.1, false))) else none)) else none) else some ((y1.1, false))))
theorem q84 (K : Nat) (x1 : (List Int)) (x2 : Int) : evFnK (α := Int × Bool) (L84_1 K) 3 84 Try.f84.results.toList (codeOf Try.f84) ins84 res84 (fun p => (p.1.1, p.1.2.1)) (x1, x2, ()) = implf84 K x1 x2 := by kernel_rfl
noncomputable def e84 (K : Nat) : Ent := ⟨ins84, res84, Int × Bool, fun x => implf84 K x.1 x.2.1, fun _ => (fun y => ((y.1, y.2, ()), (()))), false⟩
theorem e84_ok (K : Nat) : EntOk Try.prog 84 (e84 K) := entOk_k (ins := ins84) (rs := res84) (α := Int × Bool) (lib84_1 K) (d := 3) Try.func84 rfl (by kernel_rfl) (by kernel_rfl) (by kernel_rfl) (fun x => implf84 K x.1 x.2.1) (fun p => (p.1.1, p.1.2.1)) (fun y => ((y.1, y.2, ()), (()))) (fun _ => rfl) (fun x => q84 K x.1 x.2.1)

/-! slices.Insert[[]int,int] -/
abbrev ins86 : Fs := [(.own (.int .i64), false), (.dat (.int .i64), false), (.own (.int .i64), false)]
abbrev res86 : Sh := .own (.int .i64)
noncomputable def implf86 (K : Nat) (x1 : List Int) (x2 : Int) (x3 : List Int) : Option (List Int) := if 0 ≤ x2 ∧ x2 ≤ (x1.length : Int) ∧ x1.length ≤ 1000 ∧ x3.length = 1 then some (x1.take x2.toNat ++ x3 ++ x1.drop x2.toNat) else none
noncomputable def e86 (K : Nat) : Ent := ⟨ins86, res86, List Int, fun x => implf86 K x.1 x.2.1 x.2.2.1, fun _ => (fun y => (y, ())), true⟩
theorem e86_ok (K : Nat) : EntOk Try.prog 86 (e86 K) := insert_ent86

/-! slices.Index[[]int,int] -/
abbrev ins100 : Fs := [(.dat (.sl (.int .i64)), false), (.dat (.int .i64), false)]
abbrev res100 : Sh := .dat (.int .i64)
theorem lp100 : loopsIn (codeOf Try.f100) 0 = [(0, loopOf 0 (codeOf Try.f100))] := by kernel_rfl
noncomputable def L100_0 (K : Nat) : Lib := mkLib ti [] [] 100 []
theorem lib100_0 (K : Nat) : LibOk Try.prog (L100_0 K) := libOk_mk (ents := []) (bodies := []) (loops := []) order tiOk trivial trivial Try.func100 rfl lp100 ⟨no_lent, trivial⟩
abbrev i100_0 : Fs := [(.dat (.sl (.int Go.IntKind.i64)), false), (.dat (.int Go.IntKind.i64), false), (.dat (.int Go.IntKind.i64), false), (.dat (.int Go.IntKind.i64), true)]
noncomputable def implb100_0 (K : Nat) (rc : (List Int) → Int → Int → Int → Option (Sum (Int × Unit) Int)) (x1 : (List Int)) (x2 : Int) (x3 : Int) (x4 : Int) : Option (Sum (Int × Unit) Int) :=
  (bif decide (x4 < x3) then (if (0 : Int) ≤ x4 ∧ x4 < (↑x1.length : Int) then (bif x2 == x1.getD x4.toNat ((0 : Int)) then some (Sum.inr x4) else (rc x1 x2 x3 (IntKind.i64.wrap (x4 + (1 : Int))))) else none) else some (Sum.inl (x4, ())))
noncomputable def impll100_0 (K : Nat) : Nat → (List Int) → Int → Int → Int → Option (Sum (Int × Unit) Int)
  | 0, _, _, _, _ => none
  | k + 1, x1, x2, x3, x4 => implb100_0 K (impll100_0 K k) x1 x2 x3 x4
noncomputable def n100_0 (K : Nat) : Lent := ⟨[0, 1, 7, 8], i100_0, [9, 10, 5, 11, 12, 13, 14, 15, 16, 17, 4, 18], [0], true, res100, fun x => impll100_0 K K x.1 x.2.1 x.2.2.1 x.2.2.2.1, [], none⟩
theorem q100_0 (K : Nat) (rc : (List Int) → Int → Int → Int → Option (Sum (Int × Unit) Int)) (x1 : (List Int)) (x2 : Int) (x3 : Int) (x4 : Int) : evLoop (L100_0 K) 3 100 Try.f100.results.toList (loopOf 0 (codeOf Try.f100)) 0 [0, 1, 7, 8] [] i100_0 [0] true res100 (fun x => rc x.1 x.2.1 x.2.2.1 x.2.2.2.1) (x1, x2, x3, x4, ()) = implb100_0 K rc x1 x2 x3 x4 := by kernel_rfl
theorem lp100_0 : loopsIn (loopOf 0 (codeOf Try.f100)) 0 = [] := by kernel_rfl
theorem n100_0_ok (K : Nat) : LentOk Try.prog Try.f100 (loopOf 0 (codeOf Try.f100)) (n100_0 K) := lentOk_k (slots := [0, 1, 7, 8]) (ali := []) (ins := i100_0) (writes := [9, 10, 5, 11, 12, 13, 14, 15, 16, 17, 4, 18]) (exits := [0]) (rets := true) (rs := res100) (d := 3) (lib100_0 K) lp100_0 trivial (by kernel_rfl) (by kernel_rfl) (by kernel_rfl) (by kernel_rfl) (by kernel_rfl) (fun k x => impll100_0 K k x.1 x.2.1 x.2.2.1 x.2.2.2.1) (fun _ => rfl) (fun k x => q100_0 K (impll100_0 K k) x.1 x.2.1 x.2.2.1 x.2.2.2.1) K
noncomputable def L100_1 (K : Nat) : Lib := mkLib ti [] [] 100 [(0, [n100_0 K])]
theorem lib100_1 (K : Nat) : LibOk Try.prog (L100_1 K) := libOk_mk (ents := []) (bodies := []) (loops := [(0, [n100_0 K])]) order tiOk trivial trivial Try.func100 rfl lp100 ⟨one_lent (n100_0_ok K), trivial⟩
noncomputable def implf100 (K : Nat) (x1 : (List Int)) (x2 : Int) : Option (Int) :=
  (ob (impll100_0 K K x1 x2 ((↑x1.length : Int)) ((0 : Int))) fun y1 => (match y1 with | .inl y2 => some ((-1 : Int)) | .inr y2 => some (y2)))
theorem q100 (K : Nat) (x1 : (List Int)) (x2 : Int) : evFnK (α := Int) (L100_1 K) 3 100 Try.f100.results.toList (codeOf Try.f100) ins100 res100 (fun p => p.1) (x1, x2, ()) = implf100 K x1 x2 := by kernel_rfl
noncomputable def e100 (K : Nat) : Ent := ⟨ins100, res100, Int, fun x => implf100 K x.1 x.2.1, fun _ => (fun y => (y, (()))), false⟩
theorem e100_ok (K : Nat) : EntOk Try.prog 100 (e100 K) := entOk_k (ins := ins100) (rs := res100) (α := Int) (lib100_1 K) (d := 3) Try.func100 rfl (by kernel_rfl) (by kernel_rfl) (by kernel_rfl) (fun x => implf100 K x.1 x.2.1) (fun p => p.1) (fun y => (y, (()))) (fun _ => rfl) (fun x => q100 K x.1 x.2.1)

/-! slices.Delete[[]int,int] -/
abbrev ins141 : Fs := [(.own (.int .i64), false), (.dat (.int .i64), false), (.dat (.int .i64), false)]
abbrev res141 : Sh := .own (.int .i64)
noncomputable def implf141 (K : Nat) (x1 : List Int) (x2 : Int) (x3 : Int) : Option (List Int) := if 0 ≤ x2 ∧ x2 ≤ x3 ∧ x3 ≤ (x1.length : Int) then some (x1.take x2.toNat ++ x1.drop x3.toNat) else none
noncomputable def e141 (K : Nat) : Ent := ⟨ins141, res141, List Int, fun x => implf141 K x.1 x.2.1 x.2.2.1, fun _ => (fun y => (y, ())), true⟩
theorem e141_ok (K : Nat) : EntOk Try.prog 141 (e141 K) := delete_ent141

/-! diaphone/echo.without -/
abbrev ins126 : Fs := [(.dat (.sl (.int .i64)), false), (.dat (.sl (.int .i64)), false)]
abbrev res126 : Sh := .cons (.own (.int .i64)) (.cons (.dat (.bool)) (.un))
theorem lp126 : loopsIn (codeOf Try.f126) 0 = [(0, loopOf 0 (codeOf Try.f126))] := by kernel_rfl
noncomputable def L126_0 (K : Nat) : Lib := mkLib ti [(83, [e83 K]), (100, [e100 K]), (141, [e141 K])] [] 126 []
theorem lib126_0 (K : Nat) : LibOk Try.prog (L126_0 K) := libOk_mk (ents := [(83, [e83 K]), (100, [e100 K]), (141, [e141 K])]) (bodies := []) (loops := []) order tiOk ⟨one_ent (e83_ok K), one_ent (e100_ok K), one_ent (e141_ok K), trivial⟩ trivial Try.func126 rfl lp126 ⟨no_lent, trivial⟩
abbrev i126_0 : Fs := [(.own (.int Go.IntKind.i64), true), (.dat (.sl (.int Go.IntKind.i64)), false), (.dat (.int Go.IntKind.i64), false), (.dat (.int Go.IntKind.i64), true)]
noncomputable def implb126_0 (K : Nat) (rc : (List Int) → (List Int) → Int → Int → Option (Sum ((List Int) × Int × Unit) ((List Int) × Bool × Unit))) (x1 : (List Int)) (x2 : (List Int)) (x3 : Int) (x4 : Int) : Option (Sum ((List Int) × Int × Unit) ((List Int) × Bool × Unit)) :=
  (bif decide (x4 < x3) then (if (0 : Int) ≤ x4 ∧ x4 < (↑x2.length : Int) then (ob (implf100 K x1 (x2.getD x4.toNat ((0 : Int)))) fun y1 => (bif decide (y1 < (0 : Int)) then some (Sum.inr ([], false, ())) else (ob (implf141 K x1 y1 (IntKind.i64.wrap (y1 + (1 : Int)))) fun y2 => (rc y2 x2 x3 (IntKind.i64.wrap (x4 + (1 : Int))))))) else none) else some (Sum.inl (x1, x4, ())))
noncomputable def impll126_0 (K : Nat) : Nat → (List Int) → (List Int) → Int → Int → Option (Sum ((List Int) × Int × Unit) ((List Int) × Bool × Unit))
  | 0, _, _, _, _ => none
  | k + 1, x1, x2, x3, x4 => implb126_0 K (impll126_0 K k) x1 x2 x3 x4
noncomputable def n126_0 (K : Nat) : Lent := ⟨[0, 11, 12, 13], i126_0, [14, 15, 16, 7, 17, 18, 19, 8, 20, 21, 4, 5, 22, 23, 24, 25, 26, 27], [0], true, res126, fun x => impll126_0 K K x.1 x.2.1 x.2.2.1 x.2.2.2.1, [], none⟩
theorem q126_0 (K : Nat) (rc : (List Int) → (List Int) → Int → Int → Option (Sum ((List Int) × Int × Unit) ((List Int) × Bool × Unit))) (x1 : (List Int)) (x2 : (List Int)) (x3 : Int) (x4 : Int) : evLoop (L126_0 K) 3 126 Try.f126.results.toList (loopOf 0 (codeOf Try.f126)) 0 [0, 11, 12, 13] [] i126_0 [0] true res126 (fun x => rc x.1 x.2.1 x.2.2.1 x.2.2.2.1) (x1, x2, x3, x4, ()) = implb126_0 K rc x1 x2 x3 x4 := by kernel_rfl
theorem lp126_0 : loopsIn (loopOf 0 (codeOf Try.f126)) 0 = [] := by kernel_rfl
theorem n126_0_ok (K : Nat) : LentOk Try.prog Try.f126 (loopOf 0 (codeOf Try.f126)) (n126_0 K) := lentOk_k (slots := [0, 11, 12, 13]) (ali := []) (ins := i126_0) (writes := [14, 15, 16, 7, 17, 18, 19, 8, 20, 21, 4, 5, 22, 23, 24, 25, 26, 27]) (exits := [0]) (rets := true) (rs := res126) (d := 3) (lib126_0 K) lp126_0 trivial (by kernel_rfl) (by kernel_rfl) (by kernel_rfl) (by kernel_rfl) (by kernel_rfl) (fun k x => impll126_0 K k x.1 x.2.1 x.2.2.1 x.2.2.2.1) (fun _ => rfl) (fun k x => q126_0 K (impll126_0 K k) x.1 x.2.1 x.2.2.1 x.2.2.2.1) K
noncomputable def L126_1 (K : Nat) : Lib := mkLib ti [(83, [e83 K]), (100, [e100 K]), (141, [e141 K])] [] 126 [(0, [n126_0 K])]
theorem lib126_1 (K : Nat) : LibOk Try.prog (L126_1 K) := libOk_mk (ents := [(83, [e83 K]), (100, [e100 K]), (141, [e141 K])]) (bodies := []) (loops := [(0, [n126_0 K])]) order tiOk ⟨one_ent (e83_ok K), one_ent (e100_ok K), one_ent (e141_ok K), trivial⟩ trivial Try.func126 rfl lp126 ⟨one_lent (n126_0_ok K), trivial⟩
noncomputable def implf126 (K : Nat) (x1 : (List Int)) (x2 : (List Int)) : Option ((List Int) × Bool) :=
  (ob (implf83 K x1) fun y1 => (ob (impll126_0 K K y1 x2 ((↑x2.length : Int)) ((0 : Int))) fun y2 => (match y2 with | .inl y3 => some ((y3.1, true)) | .inr y3 => some ((y3.1, y3.2.1)))))
theorem q126 (K : Nat) (x1 : (List Int)) (x2 : (List Int)) : evFnK (α := (List Int) × Bool) (L126_1 K) 3 126 Try.f126.results.toList (codeOf Try.f126) ins126 res126 (fun p => (p.1.1, p.1.2.1)) (x1, x2, ()) = implf126 K x1 x2 := by kernel_rfl
noncomputable def e126 (K : Nat) : Ent := ⟨ins126, res126, (List Int) × Bool, fun x => implf126 K x.1 x.2.1, fun _ => (fun y => ((y.1, y.2, ()), (()))), false⟩
theorem e126_ok (K : Nat) : EntOk Try.prog 126 (e126 K) := entOk_k (ins := ins126) (rs := res126) (α := (List Int) × Bool) (lib126_1 K) (d := 3) Try.func126 rfl (by kernel_rfl) (by kernel_rfl) (by kernel_rfl) (fun x => implf126 K x.1 x.2.1) (fun p => (p.1.1, p.1.2.1)) (fun y => ((y.1, y.2, ()), (()))) (fun _ => rfl) (fun x => q126 K x.1 x.2.1)

end Go.Proofs.Ytdgibokmaannjaa
