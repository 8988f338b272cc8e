/- What the functions compute: printed by a program of this claim's author. -/
import Derived.Test.YtbojnkcolamneaaR4
set_option maxRecDepth 100000
set_option linter.unusedVariables false
namespace Go.Proofs.Ytbojnkcolamneaa
open Go Go.Pv

/-! cmp.Or[int] -/
abbrev ins94 : Fs := [(.dat (.sl (.int .i64)), false)]
abbrev res94 : Sh := .dat (.int .i64)
theorem lp94 : loopsIn (codeOf Try.f94) 0 = [(0, loopOf 0 (codeOf Try.f94))] := by kernel_rfl
noncomputable def L94_0 (K : Nat) : Lib := mkLib ti [] [] 94 []
theorem lib94_0 (K : Nat) : LibOk Try.prog (L94_0 K) := libOk_mk (ents := []) (bodies := []) (loops := []) order tiOk trivial trivial Try.func94 rfl lp94 ⟨no_lent, trivial⟩
abbrev i94_0 : Fs := [(.dat (.int Go.IntKind.i64), false), (.dat (.sl (.int Go.IntKind.i64)), false), (.dat (.int Go.IntKind.i64), false), (.dat (.int Go.IntKind.i64), true)]
noncomputable def implb94_0 (K : Nat) (rc : Int → (List Int) → Int → Int → Option (Sum (Int × Unit) Int)) (x1 : Int) (x2 : (List Int)) (x3 : Int) (x4 : Int) : Option (Sum (Int × Unit) Int) :=
  (bif decide (x4 < x3) then (if (0 : Int) ≤ x4 ∧ x4 < (↑x2.length : Int) then (bif x2.getD x4.toNat ((0 : Int)) != x1 then some (Sum.inr (x2.getD x4.toNat ((0 : Int)))) else (rc x1 x2 x3 (IntKind.i64.wrap (x4 + (1 : Int))))) else none) else some (Sum.inl (x4, ())))
noncomputable def impll94_0 (K : Nat) : Nat → Int → (List Int) → Int → Int → Option (Sum (Int × Unit) Int)
  | 0, _, _, _, _ => none
  | k + 1, x1, x2, x3, x4 => implb94_0 K (impll94_0 K k) x1 x2 x3 x4
noncomputable def n94_0 (K : Nat) : Lent := ⟨[3, 6, 7, 8], i94_0, [9, 10, 11, 5, 12, 13, 14, 15, 2, 16], [0], true, res94, fun x => impll94_0 K K x.1 x.2.1 x.2.2.1 x.2.2.2.1, []⟩
theorem q94_0 (K : Nat) (rc : Int → (List Int) → Int → Int → Option (Sum (Int × Unit) Int)) (x1 : Int) (x2 : (List Int)) (x3 : Int) (x4 : Int) : evLoop (L94_0 K) 3 94 Try.f94.results.toList (loopOf 0 (codeOf Try.f94)) 0 [3, 6, 7, 8] [] i94_0 [0] true res94 (fun x => rc x.1 x.2.1 x.2.2.1 x.2.2.2.1) (x1, x2, x3, x4, ()) = implb94_0 K rc x1 x2 x3 x4 := by kernel_rfl
theorem lp94_0 : loopsIn (loopOf 0 (codeOf Try.f94)) 0 = [] := by kernel_rfl
theorem n94_0_ok (K : Nat) : LentOk Try.prog Try.f94 (loopOf 0 (codeOf Try.f94)) (n94_0 K) := lentOk_k (slots := [3, 6, 7, 8]) (ali := []) (ins := i94_0) (writes := [9, 10, 11, 5, 12, 13, 14, 15, 2, 16]) (exits := [0]) (rets := true) (rs := res94) (lib94_0 K) lp94_0 trivial (by kernel_rfl) (by kernel_rfl) (by kernel_rfl) (by kernel_rfl) (by kernel_rfl) (fun k x => impll94_0 K k x.1 x.2.1 x.2.2.1 x.2.2.2.1) (fun _ => rfl) (fun k x => q94_0 K (impll94_0 K k) x.1 x.2.1 x.2.2.1 x.2.2.2.1) K
noncomputable def L94_1 (K : Nat) : Lib := mkLib ti [] [] 94 [(0, [n94_0 K])]
theorem lib94_1 (K : Nat) : LibOk Try.prog (L94_1 K) := libOk_mk (ents := []) (bodies := []) (loops := [(0, [n94_0 K])]) order tiOk trivial trivial Try.func94 rfl lp94 ⟨one_lent (n94_0_ok K), trivial⟩
noncomputable def implf94 (K : Nat) (x1 : (List Int)) : Option (Int) :=
  (ob (impll94_0 K K ((0 : Int)) x1 ((↑x1.length : Int)) ((0 : Int))) fun y1 => (match y1 with | .inl y2 => some ((0 : Int)) | .inr y2 => some (y2)))
theorem q94 (K : Nat) (x1 : (List Int)) : evFnK (α := Int) (L94_1 K) 3 94 Try.f94.results.toList (codeOf Try.f94) ins94 res94 (fun p => p.1) (x1, ()) = implf94 K x1 := by kernel_rfl
noncomputable def e94 (K : Nat) : Ent := ⟨ins94, res94, Int, fun x => implf94 K x.1, fun _ => (fun y => (y, (()))), false⟩
theorem e94_ok (K : Nat) : EntOk Try.prog 94 (e94 K) := entOk_k (ins := ins94) (rs := res94) (α := Int) (lib94_1 K) (d := 3) Try.func94 rfl (by kernel_rfl) (by kernel_rfl) (by kernel_rfl) (fun x => implf94 K x.1) (fun p => p.1) (fun y => (y, (()))) (fun _ => rfl) (fun x => q94 K x.1)

/-! cmp.Compare[int] -/
abbrev ins95 : Fs := [(.dat (.int .i64), false), (.dat (.int .i64), false)]
abbrev res95 : Sh := .dat (.int .i64)
theorem lp95 : loopsIn (codeOf Try.f95) 0 = [] := by kernel_rfl
noncomputable def L95_0 (K : Nat) : Lib := mkLib ti [] [(110, Try.f110)] 95 []
theorem lib95_0 (K : Nat) : LibOk Try.prog (L95_0 K) := libOk_mk (ents := []) (bodies := [(110, Try.f110)]) (loops := []) order tiOk trivial ⟨bod110, trivial⟩ Try.func95 rfl lp95 trivial
noncomputable def implf95 (K : Nat) (x1 : Int) (x2 : Int) : Option (Int) :=
  (bif x1 != x1 then (bif x2 != x2 then some ((0 : Int)) else some ((-1 : Int))) else (bif x2 != x2 then some ((1 : Int)) else (bif decide (x1 < x2) then some ((-1 : Int)) else (bif decide (x1 > x2) then some ((1 : Int)) else some ((0 : Int))))))
theorem q95 (K : Nat) (x1 : Int) (x2 : Int) : evFnK (α := Int) (L95_0 K) 3 95 Try.f95.results.toList (codeOf Try.f95) ins95 res95 (fun p => p.1) (x1, x2, ()) = implf95 K x1 x2 := by kernel_rfl
noncomputable def e95 (K : Nat) : Ent := ⟨ins95, res95, Int, fun x => implf95 K x.1 x.2.1, fun _ => (fun y => (y, (()))), false⟩
theorem e95_ok (K : Nat) : EntOk Try.prog 95 (e95 K) := entOk_k (ins := ins95) (rs := res95) (α := Int) (lib95_0 K) (d := 3) Try.func95 rfl (by kernel_rfl) (by kernel_rfl) (by kernel_rfl) (fun x => implf95 K x.1 x.2.1) (fun p => p.1) (fun y => (y, (()))) (fun _ => rfl) (fun x => q95 K x.1 x.2.1)

/-! (diaphone/watch.shift).begins -/
abbrev ins68 : Fs := [(.dat (.pr (.pr (.int .i64) (.pr (.int .i64) (.int .i64))) (.int .i64)), false), (.dat (.pr (.pr (.int .i64) (.pr (.int .i64) (.int .i64))) (.int .i64)), false)]
abbrev res68 : Sh := .dat (.int .i64)
theorem lp68 : loopsIn (codeOf Try.f68) 0 = [] := by kernel_rfl
noncomputable def L68_0 (K : Nat) : Lib := mkLib ti [(94, [e94 K]), (95, [e95 K])] [] 68 []
theorem lib68_0 (K : Nat) : LibOk Try.prog (L68_0 K) := libOk_mk (ents := [(94, [e94 K]), (95, [e95 K])]) (bodies := []) (loops := []) order tiOk ⟨one_ent (e94_ok K), one_ent (e95_ok K), trivial⟩ trivial Try.func68 rfl lp68 trivial
noncomputable def implf68 (K : Nat) (x1 : ((Int × (Int × Int)) × Int)) (x2 : ((Int × (Int × Int)) × Int)) : Option (Int) :=
  (ob (implf95 K x1.1.1 x2.1.1) fun y1 => (ob (implf95 K x1.2 x2.2) fun y2 => (ob (implf94 K (((List.replicate 2 ((0 : Int))).set 0 y1).set 1 y2)) fun y3 => some (y3))))
theorem q68 (K : Nat) (x1 : ((Int × (Int × Int)) × Int)) (x2 : ((Int × (Int × Int)) × Int)) : evFnK (α := Int) (L68_0 K) 3 68 Try.f68.results.toList (codeOf Try.f68) ins68 res68 (fun p => p.1) (x1, x2, ()) = implf68 K x1 x2 := by kernel_rfl
noncomputable def e68 (K : Nat) : Ent := ⟨ins68, res68, Int, fun x => implf68 K x.1 x.2.1, fun _ => (fun y => (y, (()))), false⟩
theorem e68_ok (K : Nat) : EntOk Try.prog 68 (e68 K) := entOk_k (ins := ins68) (rs := res68) (α := Int) (lib68_0 K) (d := 3) Try.func68 rfl (by kernel_rfl) (by kernel_rfl) (by kernel_rfl) (fun x => implf68 K x.1 x.2.1) (fun p => p.1) (fun y => (y, (()))) (fun _ => rfl) (fun x => q68 K x.1 x.2.1)

/-! (diaphone/watch.shift).ends -/
abbrev ins70 : Fs := [(.dat (.pr (.pr (.int .i64) (.pr (.int .i64) (.int .i64))) (.int .i64)), false), (.dat (.pr (.pr (.int .i64) (.pr (.int .i64) (.int .i64))) (.int .i64)), false)]
abbrev res70 : Sh := .dat (.int .i64)
theorem lp70 : loopsIn (codeOf Try.f70) 0 = [] := by kernel_rfl
noncomputable def L70_0 (K : Nat) : Lib := mkLib ti [(94, [e94 K]), (95, [e95 K])] [] 70 []
theorem lib70_0 (K : Nat) : LibOk Try.prog (L70_0 K) := libOk_mk (ents := [(94, [e94 K]), (95, [e95 K])]) (bodies := []) (loops := []) order tiOk ⟨one_ent (e94_ok K), one_ent (e95_ok K), trivial⟩ trivial Try.func70 rfl lp70 trivial
noncomputable def implf70 (K : Nat) (x1 : ((Int × (Int × Int)) × Int)) (x2 : ((Int × (Int × Int)) × Int)) : Option (Int) :=
  (ob (implf95 K x1.1.2.1 x2.1.2.1) fun y1 => (ob (implf95 K x1.2 x2.2) fun y2 => (ob (implf94 K (((List.replicate 2 ((0 : Int))).set 0 y1).set 1 y2)) fun y3 => some (y3))))
theorem q70 (K : Nat) (x1 : ((Int × (Int × Int)) × Int)) (x2 : ((Int × (Int × Int)) × Int)) : evFnK (α := Int) (L70_0 K) 3 70 Try.f70.results.toList (codeOf Try.f70) ins70 res70 (fun p => p.1) (x1, x2, ()) = implf70 K x1 x2 := by kernel_rfl
noncomputable def e70 (K : Nat) : Ent := ⟨ins70, res70, Int, fun x => implf70 K x.1 x.2.1, fun _ => (fun y => (y, (()))), false⟩
theorem e70_ok (K : Nat) : EntOk Try.prog 70 (e70 K) := entOk_k (ins := ins70) (rs := res70) (α := Int) (lib70_0 K) (d := 3) Try.func70 rfl (by kernel_rfl) (by kernel_rfl) (by kernel_rfl) (fun x => implf70 K x.1 x.2.1) (fun p => p.1) (fun y => (y, (()))) (fun _ => rfl) (fun x => q70 K x.1 x.2.1)

/-! diaphone/diaphonelaw04.Long -/
abbrev ins19 : Fs := [(.dat (.sl (.pr (.int .i64) (.pr (.int .i64) (.int .i64)))), false), (.dat (.sl (.sl (.int .i64))), false)]
abbrev res19 : Sh := .dat (.bool)
theorem lp19 : loopsIn (codeOf Try.f19) 0 = [(0, loopOf 0 (codeOf Try.f19))] := by kernel_rfl
noncomputable def L19_0 (K : Nat) : Lib := mkLib ti [] [] 19 []
theorem lib19_0 (K : Nat) : LibOk Try.prog (L19_0 K) := libOk_mk (ents := []) (bodies := []) (loops := []) order tiOk trivial trivial Try.func19 rfl lp19 ⟨no_lent, trivial⟩
abbrev i19_0 : Fs := [(.dat (.sl (.pr (.int Go.IntKind.i64) (.pr (.int Go.IntKind.i64) (.int Go.IntKind.i64)))), false), (.dat (.sl (.sl (.int Go.IntKind.i64))), false), (.dat (.int Go.IntKind.i64), true)]
noncomputable def implb19_0 (K : Nat) (rc : (List (Int × (Int × Int))) → (List (List Int)) → Int → Option (Sum (Int × Unit) Bool)) (x1 : (List (Int × (Int × Int)))) (x2 : (List (List Int))) (x3 : Int) : Option (Sum (Int × Unit) Bool) :=
  (bif decide (x3 < (↑x2.length : Int)) then (if (0 : Int) ≤ x3 ∧ x3 < (↑x2.length : Int) then (bif decide ((↑(x2.getD x3.toNat []).length : Int) > (100 : Int)) then some (Sum.inr true) else (rc x1 x2 (IntKind.i64.wrap (x3 + (1 : Int))))) else none) else some (Sum.inl (x3, ())))
noncomputable def impll19_0 (K : Nat) : Nat → (List (Int × (Int × Int))) → (List (List Int)) → Int → Option (Sum (Int × Unit) Bool)
  | 0, _, _, _ => none
  | k + 1, x1, x2, x3 => implb19_0 K (impll19_0 K k) x1 x2 x3
noncomputable def n19_0 (K : Nat) : Lent := ⟨[0, 1, 5], i19_0, [6, 7, 8, 9, 12, 13, 14, 15, 16, 17, 4, 10, 11], [0], true, res19, fun x => impll19_0 K K x.1 x.2.1 x.2.2.1, []⟩
theorem q19_0 (K : Nat) (rc : (List (Int × (Int × Int))) → (List (List Int)) → Int → Option (Sum (Int × Unit) Bool)) (x1 : (List (Int × (Int × Int)))) (x2 : (List (List Int))) (x3 : Int) : evLoop (L19_0 K) 3 19 Try.f19.results.toList (loopOf 0 (codeOf Try.f19)) 0 [0, 1, 5] [] i19_0 [0] true res19 (fun x => rc x.1 x.2.1 x.2.2.1) (x1, x2, x3, ()) = implb19_0 K rc x1 x2 x3 := by kernel_rfl
theorem lp19_0 : loopsIn (loopOf 0 (codeOf Try.f19)) 0 = [] := by kernel_rfl
theorem n19_0_ok (K : Nat) : LentOk Try.prog Try.f19 (loopOf 0 (codeOf Try.f19)) (n19_0 K) := lentOk_k (slots := [0, 1, 5]) (ali := []) (ins := i19_0) (writes := [6, 7, 8, 9, 12, 13, 14, 15, 16, 17, 4, 10, 11]) (exits := [0]) (rets := true) (rs := res19) (lib19_0 K) lp19_0 trivial (by kernel_rfl) (by kernel_rfl) (by kernel_rfl) (by kernel_rfl) (by kernel_rfl) (fun k x => impll19_0 K k x.1 x.2.1 x.2.2.1) (fun _ => rfl) (fun k x => q19_0 K (impll19_0 K k) x.1 x.2.1 x.2.2.1) K
noncomputable def L19_1 (K : Nat) : Lib := mkLib ti [] [] 19 [(0, [n19_0 K])]
theorem lib19_1 (K : Nat) : LibOk Try.prog (L19_1 K) := libOk_mk (ents := []) (bodies := []) (loops := [(0, [n19_0 K])]) order tiOk trivial trivial Try.func19 rfl lp19 ⟨one_lent (n19_0_ok K), trivial⟩
noncomputable def implf19 (K : Nat) (x1 : (List (Int × (Int × Int)))) (x2 : (List (List Int))) : Option (Bool) :=
  (ob (impll19_0 K K x1 x2 ((0 : Int))) fun y1 => (match y1 with | .inl y2 => some (decide ((↑x1.length : Int) > (50 : Int))) | .inr y2 => some (y2)))
theorem q19 (K : Nat) (x1 : (List (Int × (Int × Int)))) (x2 : (List (List Int))) : evFnK (α := Bool) (L19_1 K) 3 19 Try.f19.results.toList (codeOf Try.f19) ins19 res19 (fun p => p.1) (x1, x2, ()) = implf19 K x1 x2 := by kernel_rfl
noncomputable def e19 (K : Nat) : Ent := ⟨ins19, res19, Bool, fun x => implf19 K x.1 x.2.1, fun _ => (fun y => (y, (()))), false⟩
theorem e19_ok (K : Nat) : EntOk Try.prog 19 (e19 K) := entOk_k (ins := ins19) (rs := res19) (α := Bool) (lib19_1 K) (d := 3) Try.func19 rfl (by kernel_rfl) (by kernel_rfl) (by kernel_rfl) (fun x => implf19 K x.1 x.2.1) (fun p => p.1) (fun y => (y, (()))) (fun _ => rfl) (fun x => q19 K x.1 x.2.1)

/-! diaphone/watch.within -/
abbrev ins60 : Fs := [(.dat (.int .i64), false), (.dat (.int .i64), false), (.dat (.int .i64), false)]
abbrev res60 : Sh := .dat (.bool)
theorem lp60 : loopsIn (codeOf Try.f60) 0 = [] := by kernel_rfl
noncomputable def L60_0 (K : Nat) : Lib := mkLib ti [] [] 60 []
theorem lib60_0 (K : Nat) : LibOk Try.prog (L60_0 K) := libOk_mk (ents := []) (bodies := []) (loops := []) order tiOk trivial trivial Try.func60 rfl lp60 trivial
noncomputable def implf60 (K : Nat) (x1 : Int) (x2 : Int) (x3 : Int) : Option (Bool) :=
  (bif decide (x2 ≤ x1) then some (decide (x1 ≤ x3)) else some (false))
theorem q60 (K : Nat) (x1 : Int) (x2 : Int) (x3 : Int) : evFnK (α := Bool) (L60_0 K) 3 60 Try.f60.results.toList (codeOf Try.f60) ins60 res60 (fun p => p.1) (x1, x2, x3, ()) = implf60 K x1 x2 x3 := by kernel_rfl
noncomputable def e60 (K : Nat) : Ent := ⟨ins60, res60, Bool, fun x => implf60 K x.1 x.2.1 x.2.2.1, fun _ => (fun y => (y, (()))), false⟩
theorem e60_ok (K : Nat) : EntOk Try.prog 60 (e60 K) := entOk_k (ins := ins60) (rs := res60) (α := Bool) (lib60_0 K) (d := 3) Try.func60 rfl (by kernel_rfl) (by kernel_rfl) (by kernel_rfl) (fun x => implf60 K x.1 x.2.1 x.2.2.1) (fun p => p.1) (fun y => (y, (()))) (fun _ => rfl) (fun x => q60 K x.1 x.2.1 x.2.2.1)

/-! diaphone/watch.isShift -/
abbrev ins77 : Fs := [(.dat (.pr (.int .i64) (.pr (.int .i64) (.int .i64))), false)]
abbrev res77 : Sh := .dat (.bool)
theorem lp77 : loopsIn (codeOf Try.f77) 0 = [] := by kernel_rfl
noncomputable def L77_0 (K : Nat) : Lib := mkLib ti [(60, [e60 K])] [] 77 []
theorem lib77_0 (K : Nat) : LibOk Try.prog (L77_0 K) := libOk_mk (ents := [(60, [e60 K])]) (bodies := []) (loops := []) order tiOk ⟨one_ent (e60_ok K), trivial⟩ trivial Try.func77 rfl lp77 trivial
noncomputable def implf77 (K : Nat) (x1 : (Int × (Int × Int))) : Option (Bool) :=
  (ob (implf60 K x1.1 ((0 : Int)) (IntKind.i64.wrap (x1.2.1 - (1 : Int)))) fun y1 => (bif y1 then (ob (implf60 K x1.2.1 ((1 : Int)) ((1000 : Int))) fun y2 => (bif y2 then (ob (implf60 K x1.2.2 ((0 : Int)) ((99 : Int))) fun y3 => some (y3)) else some (false))) else some (false)))
theorem q77 (K : Nat) (x1 : (Int × (Int × Int))) : evFnK (α := Bool) (L77_0 K) 3 77 Try.f77.results.toList (codeOf Try.f77) ins77 res77 (fun p => p.1) (x1, ()) = implf77 K x1 := by kernel_rfl
noncomputable def e77 (K : Nat) : Ent := ⟨ins77, res77, Bool, fun x => implf77 K x.1, fun _ => (fun y => (y, (()))), false⟩
theorem e77_ok (K : Nat) : EntOk Try.prog 77 (e77 K) := entOk_k (ins := ins77) (rs := res77) (α := Bool) (lib77_0 K) (d := 3) Try.func77 rfl (by kernel_rfl) (by kernel_rfl) (by kernel_rfl) (fun x => implf77 K x.1) (fun p => p.1) (fun y => (y, (()))) (fun _ => rfl) (fun x => q77 K x.1)

/-! diaphone/watch.Validate -/
abbrev ins31 : Fs := [(.dat (.sl (.pr (.int .i64) (.pr (.int .i64) (.int .i64)))), false)]
abbrev res31 : Sh := .dat (.int .i64)
theorem lp31 : loopsIn (codeOf Try.f31) 0 = [(0, loopOf 0 (codeOf Try.f31))] := by kernel_rfl
noncomputable def L31_0 (K : Nat) : Lib := mkLib ti [(77, [e77 K])] [] 31 []
theorem lib31_0 (K : Nat) : LibOk Try.prog (L31_0 K) := libOk_mk (ents := [(77, [e77 K])]) (bodies := []) (loops := []) order tiOk ⟨one_ent (e77_ok K), trivial⟩ trivial Try.func31 rfl lp31 ⟨no_lent, trivial⟩
abbrev i31_0 : Fs := [(.dat (.sl (.pr (.int Go.IntKind.i64) (.pr (.int Go.IntKind.i64) (.int Go.IntKind.i64)))), false), (.dat (.int Go.IntKind.i64), false), (.dat (.int Go.IntKind.i64), true)]
noncomputable def implb31_0 (K : Nat) (rc : (List (Int × (Int × Int))) → Int → Int → Option (Sum (Int × Unit) Int)) (x1 : (List (Int × (Int × Int)))) (x2 : Int) (x3 : Int) : Option (Sum (Int × Unit) Int) :=
  (bif decide (x3 < x2) then (if (0 : Int) ≤ x3 ∧ x3 < (↑x1.length : Int) then (ob (implf77 K (x1.getD x3.toNat ((0 : Int), (0 : Int), (0 : Int)))) fun y1 => (bif !y1 then some (Sum.inr ((1 : Int))) else (rc x1 x2 (IntKind.i64.wrap (x3 + (1 : Int)))))) else none) else some (Sum.inl (x3, ())))
noncomputable def impll31_0 (K : Nat) : Nat → (List (Int × (Int × Int))) → Int → Int → Option (Sum (Int × Unit) Int)
  | 0, _, _, _ => none
  | k + 1, x1, x2, x3 => implb31_0 K (impll31_0 K k) x1 x2 x3
noncomputable def n31_0 (K : Nat) : Lent := ⟨[8, 9, 10], i31_0, [11, 12, 13, 4, 14, 15, 16, 2, 17], [0], true, res31, fun x => impll31_0 K K x.1 x.2.1 x.2.2.1, []⟩
theorem q31_0 (K : Nat) (rc : (List (Int × (Int × Int))) → Int → Int → Option (Sum (Int × Unit) Int)) (x1 : (List (Int × (Int × Int)))) (x2 : Int) (x3 : Int) : evLoop (L31_0 K) 3 31 Try.f31.results.toList (loopOf 0 (codeOf Try.f31)) 0 [8, 9, 10] [] i31_0 [0] true res31 (fun x => rc x.1 x.2.1 x.2.2.1) (x1, x2, x3, ()) = implb31_0 K rc x1 x2 x3 := by kernel_rfl
theorem lp31_0 : loopsIn (loopOf 0 (codeOf Try.f31)) 0 = [] := by kernel_rfl
theorem n31_0_ok (K : Nat) : LentOk Try.prog Try.f31 (loopOf 0 (codeOf Try.f31)) (n31_0 K) := lentOk_k (slots := [8, 9, 10]) (ali := []) (ins := i31_0) (writes := [11, 12, 13, 4, 14, 15, 16, 2, 17]) (exits := [0]) (rets := true) (rs := res31) (lib31_0 K) lp31_0 trivial (by kernel_rfl) (by kernel_rfl) (by kernel_rfl) (by kernel_rfl) (by kernel_rfl) (fun k x => impll31_0 K k x.1 x.2.1 x.2.2.1) (fun _ => rfl) (fun k x => q31_0 K (impll31_0 K k) x.1 x.2.1 x.2.2.1) K
noncomputable def L31_1 (K : Nat) : Lib := mkLib ti [(77, [e77 K])] [] 31 [(0, [n31_0 K])]
theorem lib31_1 (K : Nat) : LibOk Try.prog (L31_1 K) := libOk_mk (ents := [(77, [e77 K])]) (bodies := []) (loops := [(0, [n31_0 K])]) order tiOk ⟨one_ent (e77_ok K), trivial⟩ trivial Try.func31 rfl lp31 ⟨one_lent (n31_0_ok K), trivial⟩
noncomputable def implf31 (K : Nat) (x1 : (List (Int × (Int × Int)))) : Option (Int) :=
  (bif decide ((↑x1.length : Int) > (12 : Int)) then some ((3 : Int)) else (ob (impll31_0 K K x1 ((↑x1.length : Int)) ((0 : Int))) fun y1 => (match y1 with | .inl y2 => some ((0 : Int)) | .inr y2 => some (y2))))
theorem q31 (K : Nat) (x1 : (List (Int × (Int × Int)))) : evFnK (α := Int) (L31_1 K) 3 31 Try.f31.results.toList (codeOf Try.f31) ins31 res31 (fun p => p.1) (x1, ()) = implf31 K x1 := by kernel_rfl
noncomputable def e31 (K : Nat) : Ent := ⟨ins31, res31, Int, fun x => implf31 K x.1, fun _ => (fun y => (y, (()))), false⟩
theorem e31_ok (K : Nat) : EntOk Try.prog 31 (e31 K) := entOk_k (ins := ins31) (rs := res31) (α := Int) (lib31_1 K) (d := 3) Try.func31 rfl (by kernel_rfl) (by kernel_rfl) (by kernel_rfl) (fun x => implf31 K x.1) (fun p => p.1) (fun y => (y, (()))) (fun _ => rfl) (fun x => q31 K x.1)

/-! diaphone/watch.runs -/
abbrev ins88 : Fs := [(.dat (.pr (.int .i64) (.pr (.int .i64) (.int .i64))), false), (.dat (.int .i64), false)]
abbrev res88 : Sh := .dat (.bool)
theorem lp88 : loopsIn (codeOf Try.f88) 0 = [] := by kernel_rfl
noncomputable def L88_0 (K : Nat) : Lib := mkLib ti [] [] 88 []
theorem lib88_0 (K : Nat) : LibOk Try.prog (L88_0 K) := libOk_mk (ents := []) (bodies := []) (loops := []) order tiOk trivial trivial Try.func88 rfl lp88 trivial
noncomputable def implf88 (K : Nat) (x1 : (Int × (Int × Int))) (x2 : Int) : Option (Bool) :=
  (bif decide (x1.1 ≤ x2) then some (decide (x2 < x1.2.1)) else some (false))
theorem q88 (K : Nat) (x1 : (Int × (Int × Int))) (x2 : Int) : evFnK (α := Bool) (L88_0 K) 3 88 Try.f88.results.toList (codeOf Try.f88) ins88 res88 (fun p => p.1) (x1, x2, ()) = implf88 K x1 x2 := by kernel_rfl
noncomputable def e88 (K : Nat) : Ent := ⟨ins88, res88, Bool, fun x => implf88 K x.1 x.2.1, fun _ => (fun y => (y, (()))), false⟩
theorem e88_ok (K : Nat) : EntOk Try.prog 88 (e88 K) := entOk_k (ins := ins88) (rs := res88) (α := Bool) (lib88_0 K) (d := 3) Try.func88 rfl (by kernel_rfl) (by kernel_rfl) (by kernel_rfl) (fun x => implf88 K x.1 x.2.1) (fun p => p.1) (fun y => (y, (()))) (fun _ => rfl) (fun x => q88 K x.1 x.2.1)

/-! slices.IndexFunc[[]int,int] -/
abbrev ins78a : Fs := [(.dat (.sl (.int .i64)), false), (.fn 59 .un, false)]
abbrev res78a : Sh := .dat (.int .i64)
theorem lp78 : loopsIn (codeOf Try.f78) 0 = [(0, loopOf 0 (codeOf Try.f78))] := by kernel_rfl
noncomputable def L78a_0 (K : Nat) : Lib := mkLib ti [(60, [e60 K]), (88, [e88 K])] [(59, Try.f59), (79, Try.f79), (87, Try.f87)] 78 []
theorem lib78a_0 (K : Nat) : LibOk Try.prog (L78a_0 K) := libOk_mk (ents := [(60, [e60 K]), (88, [e88 K])]) (bodies := [(59, Try.f59), (79, Try.f79), (87, Try.f87)]) (loops := []) order tiOk ⟨one_ent (e60_ok K), one_ent (e88_ok K), trivial⟩ ⟨bod59, bod79, bod87, trivial⟩ Try.func78 rfl lp78 ⟨no_lent, trivial⟩
abbrev i78a_0 : Fs := [(.dat (.sl (.int Go.IntKind.i64)), false), (.fn 59 (.un), false), (.dat (.int Go.IntKind.i64), false), (.dat (.int Go.IntKind.i64), true)]
noncomputable def implb78a_0 (K : Nat) (rc : (List Int) → Unit → Int → Int → Option (Sum (Int × Unit) Int)) (x1 : (List Int)) (x2 : Unit) (x3 : Int) (x4 : Int) : Option (Sum (Int × Unit) Int) :=
  (bif decide (x4 < x3) then (if (0 : Int) ≤ x4 ∧ x4 < (↑x1.length : Int) then (ob (implf60 K (x1.getD x4.toNat ((0 : Int))) ((0 : Int)) ((11 : Int))) fun y1 => (bif !y1 then some (Sum.inr x4) else (rc x1 x2 x3 (IntKind.i64.wrap (x4 + (1 : Int)))))) else none) else some (Sum.inl (x4, ())))
noncomputable def impll78a_0 (K : Nat) : Nat → (List Int) → Unit → Int → Int → Option (Sum (Int × Unit) Int)
  | 0, _, _, _, _ => none
  | k + 1, x1, x2, x3, x4 => implb78a_0 K (impll78a_0 K k) x1 x2 x3 x4
noncomputable def n78a_0 (K : Nat) : Lent := ⟨[0, 1, 7, 8], i78a_0, [9, 10, 5, 11, 12, 13, 14, 15, 16, 17, 4, 18], [0], true, res78a, fun x => impll78a_0 K K x.1 x.2.1 x.2.2.1 x.2.2.2.1, []⟩
theorem q78a_0 (K : Nat) (rc : (List Int) → Unit → Int → Int → Option (Sum (Int × Unit) Int)) (x1 : (List Int)) (x2 : Unit) (x3 : Int) (x4 : Int) : evLoop (L78a_0 K) 3 78 Try.f78.results.toList (loopOf 0 (codeOf Try.f78)) 0 [0, 1, 7, 8] [] i78a_0 [0] true res78a (fun x => rc x.1 x.2.1 x.2.2.1 x.2.2.2.1) (x1, x2, x3, x4, ()) = implb78a_0 K rc x1 x2 x3 x4 := by kernel_rfl
theorem lp78a_0 : loopsIn (loopOf 0 (codeOf Try.f78)) 0 = [] := by kernel_rfl
theorem n78a_0_ok (K : Nat) : LentOk Try.prog Try.f78 (loopOf 0 (codeOf Try.f78)) (n78a_0 K) := lentOk_k (slots := [0, 1, 7, 8]) (ali := []) (ins := i78a_0) (writes := [9, 10, 5, 11, 12, 13, 14, 15, 16, 17, 4, 18]) (exits := [0]) (rets := true) (rs := res78a) (lib78a_0 K) lp78a_0 trivial (by kernel_rfl) (by kernel_rfl) (by kernel_rfl) (by kernel_rfl) (by kernel_rfl) (fun k x => impll78a_0 K k x.1 x.2.1 x.2.2.1 x.2.2.2.1) (fun _ => rfl) (fun k x => q78a_0 K (impll78a_0 K k) x.1 x.2.1 x.2.2.1 x.2.2.2.1) K
noncomputable def L78a_1 (K : Nat) : Lib := mkLib ti [(60, [e60 K]), (88, [e88 K])] [(59, Try.f59), (79, Try.f79), (87, Try.f87)] 78 [(0, [n78a_0 K])]
theorem lib78a_1 (K : Nat) : LibOk Try.prog (L78a_1 K) := libOk_mk (ents := [(60, [e60 K]), (88, [e88 K])]) (bodies := [(59, Try.f59), (79, Try.f79), (87, Try.f87)]) (loops := [(0, [n78a_0 K])]) order tiOk ⟨one_ent (e60_ok K), one_ent (e88_ok K), trivial⟩ ⟨bod59, bod79, bod87, trivial⟩ Try.func78 rfl lp78 ⟨one_lent (n78a_0_ok K), trivial⟩
noncomputable def implf78a (K : Nat) (x1 : (List Int)) (x2 : Unit) : Option (Int) :=
  (ob (impll78a_0 K K x1 () ((↑x1.length : Int)) ((0 : Int))) fun y1 => (match y1 with | .inl y2 => some ((-1 : Int)) | .inr y2 => some (y2)))
theorem q78a (K : Nat) (x1 : (List Int)) (x2 : Unit) : evFnK (α := Int) (L78a_1 K) 3 78 Try.f78.results.toList (codeOf Try.f78) ins78a res78a (fun p => p.1) (x1, x2, ()) = implf78a K x1 x2 := by kernel_rfl
noncomputable def e78a (K : Nat) : Ent := ⟨ins78a, res78a, Int, fun x => implf78a K x.1 x.2.1, fun _ => (fun y => (y, (()))), false⟩
theorem e78a_ok (K : Nat) : EntOk Try.prog 78 (e78a K) := entOk_k (ins := ins78a) (rs := res78a) (α := Int) (lib78a_1 K) (d := 3) Try.func78 rfl (by kernel_rfl) (by kernel_rfl) (by kernel_rfl) (fun x => implf78a K x.1 x.2.1) (fun p => p.1) (fun y => (y, (()))) (fun _ => rfl) (fun x => q78a K x.1 x.2.1)

abbrev ins78b : Fs := [(.dat (.sl (.int .i64)), false), (.fn 87 (.cons (.imm (.pr (.int .i64) (.pr (.int .i64) (.int .i64)))) .un), false)]
abbrev res78b : Sh := .dat (.int .i64)
noncomputable def L78b_0 (K : Nat) : Lib := mkLib ti [(60, [e60 K]), (88, [e88 K])] [(59, Try.f59), (79, Try.f79), (87, Try.f87)] 78 []
theorem lib78b_0 (K : Nat) : LibOk Try.prog (L78b_0 K) := libOk_mk (ents := [(60, [e60 K]), (88, [e88 K])]) (bodies := [(59, Try.f59), (79, Try.f79), (87, Try.f87)]) (loops := []) order tiOk ⟨one_ent (e60_ok K), one_ent (e88_ok K), trivial⟩ ⟨bod59, bod79, bod87, trivial⟩ Try.func78 rfl lp78 ⟨no_lent, trivial⟩
abbrev i78b_0 : Fs := [(.dat (.sl (.int Go.IntKind.i64)), false), (.fn 87 (.cons (.imm (.pr (.int Go.IntKind.i64) (.pr (.int Go.IntKind.i64) (.int Go.IntKind.i64)))) (.un)), false), (.dat (.int Go.IntKind.i64), false), (.dat (.int Go.IntKind.i64), true)]
noncomputable def implb78b_0 (K : Nat) (rc : (List Int) → ((Int × (Int × Int)) × Unit) → Int → Int → Option (Sum (Int × Unit) Int)) (x1 : (List Int)) (x2 : ((Int × (Int × Int)) × Unit)) (x3 : Int) (x4 : Int) : Option (Sum (Int × Unit) Int) :=
  (bif decide (x4 < x3) then (if (0 : Int) ≤ x4 ∧ x4 < (↑x1.length : Int) then (ob (implf88 K x2.1 (x1.getD x4.toNat ((0 : Int)))) fun y1 => (bif y1 then some (Sum.inr x4) else (rc x1 x2 x3 (IntKind.i64.wrap (x4 + (1 : Int)))))) else none) else some (Sum.inl (x4, ())))
noncomputable def impll78b_0 (K : Nat) : Nat → (List Int) → ((Int × (Int × Int)) × Unit) → Int → Int → Option (Sum (Int × Unit) Int)
  | 0, _, _, _, _ => none
  | k + 1, x1, x2, x3, x4 => implb78b_0 K (impll78b_0 K k) x1 x2 x3 x4
noncomputable def n78b_0 (K : Nat) : Lent := ⟨[0, 1, 7, 8], i78b_0, [9, 10, 5, 11, 12, 13, 14, 15, 16, 17, 4, 18], [0], true, res78b, fun x => impll78b_0 K K x.1 x.2.1 x.2.2.1 x.2.2.2.1, []⟩
theorem q78b_0 (K : Nat) (rc : (List Int) → ((Int × (Int × Int)) × Unit) → Int → Int → Option (Sum (Int × Unit) Int)) (x1 : (List Int)) (x2 : ((Int × (Int × Int)) × Unit)) (x3 : Int) (x4 : Int) : evLoop (L78b_0 K) 3 78 Try.f78.results.toList (loopOf 0 (codeOf Try.f78)) 0 [0, 1, 7, 8] [] i78b_0 [0] true res78b (fun x => rc x.1 x.2.1 x.2.2.1 x.2.2.2.1) (x1, x2, x3, x4, ()) = implb78b_0 K rc x1 x2 x3 x4 := by kernel_rfl
theorem lp78b_0 : loopsIn (loopOf 0 (codeOf Try.f78)) 0 = [] := by kernel_rfl
theorem n78b_0_ok (K : Nat) : LentOk Try.prog Try.f78 (loopOf 0 (codeOf Try.f78)) (n78b_0 K) := lentOk_k (slots := [0, 1, 7, 8]) (ali := []) (ins := i78b_0) (writes := [9, 10, 5, 11, 12, 13, 14, 15, 16, 17, 4, 18]) (exits := [0]) (rets := true) (rs := res78b) (lib78b_0 K) lp78b_0 trivial (by kernel_rfl) (by kernel_rfl) (by kernel_rfl) (by kernel_rfl) (by kernel_rfl) (fun k x => impll78b_0 K k x.1 x.2.1 x.2.2.1 x.2.2.2.1) (fun _ => rfl) (fun k x => q78b_0 K (impll78b_0 K k) x.1 x.2.1 x.2.2.1 x.2.2.2.1) K
noncomputable def L78b_1 (K : Nat) : Lib := mkLib ti [(60, [e60 K]), (88, [e88 K])] [(59, Try.f59), (79, Try.f79), (87, Try.f87)] 78 [(0, [n78b_0 K])]
theorem lib78b_1 (K : Nat) : LibOk Try.prog (L78b_1 K) := libOk_mk (ents := [(60, [e60 K]), (88, [e88 K])]) (bodies := [(59, Try.f59), (79, Try.f79), (87, Try.f87)]) (loops := [(0, [n78b_0 K])]) order tiOk ⟨one_ent (e60_ok K), one_ent (e88_ok K), trivial⟩ ⟨bod59, bod79, bod87, trivial⟩ Try.func78 rfl lp78 ⟨one_lent (n78b_0_ok K), trivial⟩
noncomputable def implf78b (K : Nat) (x1 : (List Int)) (x2 : ((Int × (Int × Int)) × Unit)) : Option (Int) :=
  (ob (impll78b_0 K K x1 (x2.1, ()) ((↑x1.length : Int)) ((0 : Int))) fun y1 => (match y1 with | .inl y2 => some ((-1 : Int)) | .inr y2 => some (y2)))
theorem q78b (K : Nat) (x1 : (List Int)) (x2 : ((Int × (Int × Int)) × Unit)) : evFnK (α := Int) (L78b_1 K) 3 78 Try.f78.results.toList (codeOf Try.f78) ins78b res78b (fun p => p.1) (x1, x2, ()) = implf78b K x1 x2 := by kernel_rfl
noncomputable def e78b (K : Nat) : Ent := ⟨ins78b, res78b, Int, fun x => implf78b K x.1 x.2.1, fun _ => (fun y => (y, (()))), false⟩
theorem e78b_ok (K : Nat) : EntOk Try.prog 78 (e78b K) := entOk_k (ins := ins78b) (rs := res78b) (α := Int) (lib78b_1 K) (d := 3) Try.func78 rfl (by kernel_rfl) (by kernel_rfl) (by kernel_rfl) (fun x => implf78b K x.1 x.2.1) (fun p => p.1) (fun y => (y, (()))) (fun _ => rfl) (fun x => q78b K x.1 x.2.1)

abbrev ins78d : Fs := [(.dat (.sl (.int .i64)), false), (.fn 79 (.cons (.imm (.pr (.pr (.int .i64) (.pr (.int .i64) (.int .i64))) (.int .i64))) .un), false)]
abbrev res78d : Sh := .dat (.int .i64)
noncomputable def L78d_0 (K : Nat) : Lib := mkLib ti [(60, [e60 K]), (88, [e88 K])] [(59, Try.f59), (79, Try.f79), (87, Try.f87)] 78 []
theorem lib78d_0 (K : Nat) : LibOk Try.prog (L78d_0 K) := libOk_mk (ents := [(60, [e60 K]), (88, [e88 K])]) (bodies := [(59, Try.f59), (79, Try.f79), (87, Try.f87)]) (loops := []) order tiOk ⟨one_ent (e60_ok K), one_ent (e88_ok K), trivial⟩ ⟨bod59, bod79, bod87, trivial⟩ Try.func78 rfl lp78 ⟨no_lent, trivial⟩
abbrev i78d_0 : Fs := [(.dat (.sl (.int Go.IntKind.i64)), false), (.fn 79 (.cons (.imm (.pr (.pr (.int Go.IntKind.i64) (.pr (.int Go.IntKind.i64) (.int Go.IntKind.i64))) (.int Go.IntKind.i64))) (.un)), false), (.dat (.int Go.IntKind.i64), false), (.dat (.int Go.IntKind.i64), true)]
noncomputable def implb78d_0 (K : Nat) (rc : (List Int) → (((Int × (Int × Int)) × Int) × Unit) → Int → Int → Option (Sum (Int × Unit) Int)) (x1 : (List Int)) (x2 : (((Int × (Int × Int)) × Int) × Unit)) (x3 : Int) (x4 : Int) : Option (Sum (Int × Unit) Int) :=
  (bif decide (x4 < x3) then (if (0 : Int) ≤ x4 ∧ x4 < (↑x1.length : Int) then (bif decide (x1.getD x4.toNat ((0 : Int)) ≤ x2.1.1.1) then some (Sum.inr x4) else (rc x1 x2 x3 (IntKind.i64.wrap (x4 + (1 : Int))))) else none) else some (Sum.inl (x4, ())))
noncomputable def impll78d_0 (K : Nat) : Nat → (List Int) → (((Int × (Int × Int)) × Int) × Unit) → Int → Int → Option (Sum (Int × Unit) Int)
  | 0, _, _, _, _ => none
  | k + 1, x1, x2, x3, x4 => implb78d_0 K (impll78d_0 K k) x1 x2 x3 x4
noncomputable def n78d_0 (K : Nat) : Lent := ⟨[0, 1, 7, 8], i78d_0, [9, 10, 5, 11, 12, 13, 14, 15, 16, 17, 4, 18], [0], true, res78d, fun x => impll78d_0 K K x.1 x.2.1 x.2.2.1 x.2.2.2.1, []⟩
theorem q78d_0 (K : Nat) (rc : (List Int) → (((Int × (Int × Int)) × Int) × Unit) → Int → Int → Option (Sum (Int × Unit) Int)) (x1 : (List Int)) (x2 : (((Int × (Int × Int)) × Int) × Unit)) (x3 : Int) (x4 : Int) : evLoop (L78d_0 K) 3 78 Try.f78.results.toList (loopOf 0 (codeOf Try.f78)) 0 [0, 1, 7, 8] [] i78d_0 [0] true res78d (fun x => rc x.1 x.2.1 x.2.2.1 x.2.2.2.1) (x1, x2, x3, x4, ()) = implb78d_0 K rc x1 x2 x3 x4 := by kernel_rfl
theorem lp78d_0 : loopsIn (loopOf 0 (codeOf Try.f78)) 0 = [] := by kernel_rfl
theorem n78d_0_ok (K : Nat) : LentOk Try.prog Try.f78 (loopOf 0 (codeOf Try.f78)) (n78d_0 K) := lentOk_k (slots := [0, 1, 7, 8]) (ali := []) (ins := i78d_0) (writes := [9, 10, 5, 11, 12, 13, 14, 15, 16, 17, 4, 18]) (exits := [0]) (rets := true) (rs := res78d) (lib78d_0 K) lp78d_0 trivial (by kernel_rfl) (by kernel_rfl) (by kernel_rfl) (by kernel_rfl) (by kernel_rfl) (fun k x => impll78d_0 K k x.1 x.2.1 x.2.2.1 x.2.2.2.1) (fun _ => rfl) (fun k x => q78d_0 K (impll78d_0 K k) x.1 x.2.1 x.2.2.1 x.2.2.2.1) K
noncomputable def L78d_1 (K : Nat) : Lib := mkLib ti [(60, [e60 K]), (88, [e88 K])] [(59, Try.f59), (79, Try.f79), (87, Try.f87)] 78 [(0, [n78d_0 K])]
theorem lib78d_1 (K : Nat) : LibOk Try.prog (L78d_1 K) := libOk_mk (ents := [(60, [e60 K]), (88, [e88 K])]) (bodies := [(59, Try.f59), (79, Try.f79), (87, Try.f87)]) (loops := [(0, [n78d_0 K])]) order tiOk ⟨one_ent (e60_ok K), one_ent (e88_ok K), trivial⟩ ⟨bod59, bod79, bod87, trivial⟩ Try.func78 rfl lp78 ⟨one_lent (n78d_0_ok K), trivial⟩
noncomputable def implf78d (K : Nat) (x1 : (List Int)) (x2 : (((Int × (Int × Int)) × Int) × Unit)) : Option (Int) :=
  (ob (impll78d_0 K K x1 (x2.1, ()) ((↑x1.length : Int)) ((0 : Int))) fun y1 => (match y1 with | .inl y2 => some ((-1 : Int)) | .inr y2 => some (y2)))
theorem q78d (K : Nat) (x1 : (List Int)) (x2 : (((Int × (Int × Int)) × Int) × Unit)) : evFnK (α := Int) (L78d_1 K) 3 78 Try.f78.results.toList (codeOf Try.f78) ins78d res78d (fun p => p.1) (x1, x2, ()) = implf78d K x1 x2 := by kernel_rfl
noncomputable def e78d (K : Nat) : Ent := ⟨ins78d, res78d, Int, fun x => implf78d K x.1 x.2.1, fun _ => (fun y => (y, (()))), false⟩
theorem e78d_ok (K : Nat) : EntOk Try.prog 78 (e78d K) := entOk_k (ins := ins78d) (rs := res78d) (α := Int) (lib78d_1 K) (d := 3) Try.func78 rfl (by kernel_rfl) (by kernel_rfl) (by kernel_rfl) (fun x => implf78d K x.1 x.2.1) (fun p => p.1) (fun y => (y, (()))) (fun _ => rfl) (fun x => q78d K x.1 x.2.1)

abbrev ins78c : Fs := [(.own (.int .i64), false), (.fn 79 (.cons (.imm (.pr (.pr (.int .i64) (.pr (.int .i64) (.int .i64))) (.int .i64))) .un), false)]
abbrev res78c : Sh := res78d
noncomputable def e78c (K : Nat) : Ent := ⟨ins78c, res78c, Int, fun x => implf78d K x.1 x.2.1, fun _ => (fun y => (y, ())), false⟩
theorem e78c_ok (K : Nat) : EntOk Try.prog 78 (e78c K) := EntOk.borrow (by kernel_rfl) (by kernel_rfl) (e78d_ok K)

/-! diaphone/watch.overlap -/
abbrev ins61 : Fs := [(.dat (.pr (.int .i64) (.pr (.int .i64) (.int .i64))), false), (.dat (.pr (.int .i64) (.pr (.int .i64) (.int .i64))), false)]
abbrev res61 : Sh := .dat (.bool)
theorem lp61 : loopsIn (codeOf Try.f61) 0 = [] := by kernel_rfl
noncomputable def L61_0 (K : Nat) : Lib := mkLib ti [] [] 61 []
theorem lib61_0 (K : Nat) : LibOk Try.prog (L61_0 K) := libOk_mk (ents := []) (bodies := []) (loops := []) order tiOk trivial trivial Try.func61 rfl lp61 trivial
noncomputable def implf61 (K : Nat) (x1 : (Int × (Int × Int))) (x2 : (Int × (Int × Int))) : Option (Bool) :=
  (bif decide (x1.1 < x2.2.1) then some (decide (x2.1 < x1.2.1)) else some (false))
theorem q61 (K : Nat) (x1 : (Int × (Int × Int))) (x2 : (Int × (Int × Int))) : evFnK (α := Bool) (L61_0 K) 3 61 Try.f61.results.toList (codeOf Try.f61) ins61 res61 (fun p => p.1) (x1, x2, ()) = implf61 K x1 x2 := by kernel_rfl
noncomputable def e61 (K : Nat) : Ent := ⟨ins61, res61, Bool, fun x => implf61 K x.1 x.2.1, fun _ => (fun y => (y, (()))), false⟩
theorem e61_ok (K : Nat) : EntOk Try.prog 61 (e61 K) := entOk_k (ins := ins61) (rs := res61) (α := Bool) (lib61_0 K) (d := 3) Try.func61 rfl (by kernel_rfl) (by kernel_rfl) (by kernel_rfl) (fun x => implf61 K x.1 x.2.1) (fun p => p.1) (fun y => (y, (()))) (fun _ => rfl) (fun x => q61 K x.1 x.2.1)

/-! slices.Clone[[]int,int] -/
abbrev ins62 : Fs := [(.dat (.sl (.int .i64)), false)]
abbrev res62 : Sh := .own (.int .i64)
noncomputable def implf62 (K : Nat) (x1 : List Int) : Option (List Int) := if ((List.replicate 0 (Ty.dflt (.int .i64))).length + x1.length) * 8 ≤ 140737488355328 then some (List.replicate 0 (Ty.dflt (.int .i64)) ++ x1) else none
noncomputable def e62 (K : Nat) : Ent := ⟨ins62, res62, List Int, fun x => implf62 K x.1, fun _ => (fun y => (y, ())), false⟩
noncomputable def CC62 : Code := match codeOf Try.f62 with | .seq _ (.seq (.seq _ (.cond _ x _)) _) => x | _ => .skip
noncomputable def YY62 : Code := match codeOf Try.f62 with | .seq _ (.seq _ y) => y | _ => .skip
noncomputable def L62_0 (K : Nat) : Lib := mkLib ti [] [] 62 []
theorem lp62 : loopsIn (codeOf Try.f62) 0 = [] := by kernel_rfl
theorem lib62_0 (K : Nat) : LibOk Try.prog (L62_0 K) := libOk_mk (ents := []) (bodies := []) (loops := []) order tiOk trivial trivial Try.func62 rfl lp62 trivial
theorem e62_ok (K : Nat) : EntOk Try.prog 62 (e62 K) := by
  refine clone_ok (e := .int .i64) (rs := .own (.int .i64)) (lib62_0 K) Try.func62 rfl (by kernel_rfl) (by kernel_rfl) lp62 Try.underlying23 rfl (fun x => implf62 K x) (fun y => (y, ())) (fun xs => by kernel_rfl) ?_
  intro xs b y hy hb
  cases b with
  | true =>
    have := hb rfl
    subst this
    have : y = [] := by
      unfold implf62 at hy
      split at hy
      · cases hy; rfl
      · cases hy
    subst this
    refine Eq.trans (b := some (([] : List Int), ())) ?_ rfl
    kernel_rfl
  | false =>
    unfold implf62 at hy
    split at hy
    · rename_i h
      cases hy
      have e1 : ∀ xs : List Int, ev (L62_0 K) (inPlace (L62_0 K) 1) 62 Try.f62.results.toList (.seq (.cond (.tmp 4) CC62 .skip) YY62) 0 (fun ex st => match ex with | .normal => ob (resAV (L62_0 K) st Try.f62.results.toList) fun v => finish [(.dat (.sl (.int .i64)), false)] (.own (.int .i64)) (.cons (.dat (.sl (.int .i64)) xs) .un) [] (resOne v) st | _ => none) (fun v st => finish [(.dat (.sl (.int .i64)), false)] (.own (.int .i64)) (.cons (.dat (.sl (.int .i64)) xs) .un) [] v st) ⟨[(4, .dat .bool false), (3, .dat (.sl (.int .i64)) xs), (2, .nil), (0, .dat (.sl (.int .i64)) xs)], [], 0⟩ = (if ((List.replicate 0 (Ty.dflt (.int .i64))).length + xs.length) * 8 ≤ 140737488355328 then some (List.replicate 0 (Ty.dflt (.int .i64)) ++ xs, ()) else none) := fun xs => by kernel_rfl
      exact (e1 xs).trans (if_pos h)
    · cases hy

/-! slices.Sort[[]int,int] -/
abbrev ins63 : Fs := [(.own (.int .i64), true)]
abbrev res63 : Sh := .nix
noncomputable def implf63 (K : Nat) (x1 : List Int) : Option (List Int) := if x1.length ≤ 1000 then some (isort leI x1) else none
noncomputable def e63 (K : Nat) : Ent := ⟨ins63, res63, List Int, fun x => implf63 K x.1, fun _ => (fun y => ((), (y, ()))), false⟩
theorem e63_ok (K : Nat) : EntOk Try.prog 63 (e63 K) := sort_ent

/-! slices.Compact[[]int,int] -/
abbrev ins64 : Fs := [(.own (.int .i64), false)]
abbrev res64 : Sh := .own (.int .i64)
noncomputable def implf64 (K : Nat) (x1 : List Int) : Option (List Int) := if x1.length ≤ 1000 then some (compactI x1) else none
noncomputable def e64 (K : Nat) : Ent := ⟨ins64, res64, List Int, fun x => implf64 K x.1, fun _ => (fun y => (y, ())), true⟩
theorem e64_ok (K : Nat) : EntOk Try.prog 64 (e64 K) := compact64_ent

/-! diaphone/watch.CheckRoster -/
abbrev ins21 : Fs := [(.dat (.sl (.pr (.int .i64) (.pr (.int .i64) (.int .i64)))), false), (.dat (.sl (.int .i64)), false)]
abbrev res21 : Sh := .cons (.dat (.int .i64)) (.cons (.dat (.int .i64)) (.un))
theorem lp21 : loopsIn (codeOf Try.f21) 0 = [(0, loopOf 0 (codeOf Try.f21)), (2, loopOf 2 (codeOf Try.f21))] := by kernel_rfl
noncomputable def L21_0 (K : Nat) : Lib := mkLib ti [(31, [e31 K]), (78, [e78a K, e78b K, e78c K, e78d K]), (60, [e60 K]), (61, [e61 K]), (62, [e62 K]), (63, [e63 K]), (64, [e64 K])] [(58, Try.f58), (59, Try.f59)] 21 []
theorem lib21_0 (K : Nat) : LibOk Try.prog (L21_0 K) := libOk_mk (ents := [(31, [e31 K]), (78, [e78a K, e78b K, e78c K, e78d K]), (60, [e60 K]), (61, [e61 K]), (62, [e62 K]), (63, [e63 K]), (64, [e64 K])]) (bodies := [(58, Try.f58), (59, Try.f59)]) (loops := []) order tiOk ⟨one_ent (e31_ok K), more_ent (e78a_ok K) (more_ent (e78b_ok K) (more_ent (e78c_ok K) (one_ent (e78d_ok K)))), one_ent (e60_ok K), one_ent (e61_ok K), one_ent (e62_ok K), one_ent (e63_ok K), one_ent (e64_ok K), trivial⟩ ⟨bod58, bod59, trivial⟩ Try.func21 rfl lp21 ⟨no_lent, no_lent, trivial⟩
abbrev i21_0 : Fs := [(.dat (.sl (.pr (.int Go.IntKind.i64) (.pr (.int Go.IntKind.i64) (.int Go.IntKind.i64)))), false), (.dat (.sl (.int Go.IntKind.i64)), false), (.dat (.sl (.pr (.int Go.IntKind.i64) (.pr (.int Go.IntKind.i64) (.int Go.IntKind.i64)))), false), (.dat (.int Go.IntKind.i64), false), (.dat (.int Go.IntKind.i64), true)]
abbrev i21_2 : Fs := [(.dat (.sl (.pr (.int Go.IntKind.i64) (.pr (.int Go.IntKind.i64) (.int Go.IntKind.i64)))), false), (.dat (.sl (.int Go.IntKind.i64)), false), (.dat (.int Go.IntKind.i64), false), (.box (.dat (.pr (.int Go.IntKind.i64) (.pr (.int Go.IntKind.i64) (.int Go.IntKind.i64)))), false), (.dat (.sl (.pr (.int Go.IntKind.i64) (.pr (.int Go.IntKind.i64) (.int Go.IntKind.i64)))), false), (.dat (.int Go.IntKind.i64), false), (.dat (.int Go.IntKind.i64), false), (.dat (.sl (.pr (.int Go.IntKind.i64) (.pr (.int Go.IntKind.i64) (.int Go.IntKind.i64)))), false), (.dat (.int Go.IntKind.i64), false), (.dat (.int Go.IntKind.i64), true)]
noncomputable def implb21_2 (K : Nat) (rc : (List (Int × (Int × Int))) → (List Int) → Int → (Int × (Int × Int)) → (List (Int × (Int × Int))) → Int → Int → (List (Int × (Int × Int))) → Int → Int → Option (Sum (Int × Unit) (Int × Int × Unit))) (x1 : (List (Int × (Int × Int)))) (x2 : (List Int)) (x3 : Int) (x4 : (Int × (Int × Int))) (x5 : (List (Int × (Int × Int)))) (x6 : Int) (x7 : Int) (x8 : (List (Int × (Int × Int)))) (x9 : Int) (x10 : Int) : Option (Sum (Int × Unit) (Int × Int × Unit)) :=
  (bif decide (x10 < x9) then (if (0 : Int) ≤ x10 ∧ x10 < (↑x8.length : Int) then (if (0 : Int) ≤ x3 ∧ x3 < (↑x2.length : Int) then (if (0 : Int) ≤ x10 ∧ x10 < (↑x2.length : Int) then (bif x2.getD x3.toNat ((0 : Int)) == x2.getD x10.toNat ((0 : Int)) then (ob (implf61 K x4 (x8.getD x10.toNat ((0 : Int), (0 : Int), (0 : Int)))) fun y1 => (bif y1 then some (Sum.inr ((0 : Int), (6 : Int), ())) else (rc x1 x2 x3 x4 x5 x6 x7 x8 x9 (IntKind.i64.wrap (x10 + (1 : Int)))))) else (rc x1 x2 x3 x4 x5 x6 x7 x8 x9 (IntKind.i64.wrap (x10 + (1 : Int))))) else none) else none) else none) else some (Sum.inl (x10, ())))
noncomputable def impll21_2 (K : Nat) : Nat → (List (Int × (Int × Int))) → (List Int) → Int → (Int × (Int × Int)) → (List (Int × (Int × Int))) → Int → Int → (List (Int × (Int × Int))) → Int → Int → Option (Sum (Int × Unit) (Int × Int × Unit))
  | 0, _, _, _, _, _, _, _, _, _, _ => none
  | k + 1, x1, x2, x3, x4, x5, x6, x7, x8, x9, x10 => implb21_2 K (impll21_2 K k) x1 x2 x3 x4 x5 x6 x7 x8 x9 x10
noncomputable def n21_2 (K : Nat) : Lent := ⟨[0, 1, 7, 8, 26, 27, 28, 35, 36, 37], i21_2, [38, 39, 40, 41, 10, 9, 42, 43, 44, 45, 46, 47, 48, 49, 50, 51, 52, 53, 54, 55, 4, 5, 56], [2], true, res21, fun x => impll21_2 K K x.1 x.2.1 x.2.2.1 x.2.2.2.1 x.2.2.2.2.1 x.2.2.2.2.2.1 x.2.2.2.2.2.2.1 x.2.2.2.2.2.2.2.1 x.2.2.2.2.2.2.2.2.1 x.2.2.2.2.2.2.2.2.2.1, []⟩
theorem q21_2 (K : Nat) (rc : (List (Int × (Int × Int))) → (List Int) → Int → (Int × (Int × Int)) → (List (Int × (Int × Int))) → Int → Int → (List (Int × (Int × Int))) → Int → Int → Option (Sum (Int × Unit) (Int × Int × Unit))) (x1 : (List (Int × (Int × Int)))) (x2 : (List Int)) (x3 : Int) (x4 : (Int × (Int × Int))) (x5 : (List (Int × (Int × Int)))) (x6 : Int) (x7 : Int) (x8 : (List (Int × (Int × Int)))) (x9 : Int) (x10 : Int) : evLoop (L21_0 K) 3 21 Try.f21.results.toList (loopOf 2 (codeOf Try.f21)) 2 [0, 1, 7, 8, 26, 27, 28, 35, 36, 37] [] i21_2 [2] true res21 (fun x => rc x.1 x.2.1 x.2.2.1 x.2.2.2.1 x.2.2.2.2.1 x.2.2.2.2.2.1 x.2.2.2.2.2.2.1 x.2.2.2.2.2.2.2.1 x.2.2.2.2.2.2.2.2.1 x.2.2.2.2.2.2.2.2.2.1) (x1, x2, x3, x4, x5, x6, x7, x8, x9, x10, ()) = implb21_2 K rc x1 x2 x3 x4 x5 x6 x7 x8 x9 x10 := by kernel_rfl
theorem lp21_2 : loopsIn (loopOf 2 (codeOf Try.f21)) 2 = [] := by kernel_rfl
theorem n21_2_ok (K : Nat) : LentOk Try.prog Try.f21 (loopOf 2 (codeOf Try.f21)) (n21_2 K) := lentOk_k (slots := [0, 1, 7, 8, 26, 27, 28, 35, 36, 37]) (ali := []) (ins := i21_2) (writes := [38, 39, 40, 41, 10, 9, 42, 43, 44, 45, 46, 47, 48, 49, 50, 51, 52, 53, 54, 55, 4, 5, 56]) (exits := [2]) (rets := true) (rs := res21) (lib21_0 K) lp21_2 trivial (by kernel_rfl) (by kernel_rfl) (by kernel_rfl) (by kernel_rfl) (by kernel_rfl) (fun k x => impll21_2 K k x.1 x.2.1 x.2.2.1 x.2.2.2.1 x.2.2.2.2.1 x.2.2.2.2.2.1 x.2.2.2.2.2.2.1 x.2.2.2.2.2.2.2.1 x.2.2.2.2.2.2.2.2.1 x.2.2.2.2.2.2.2.2.2.1) (fun _ => rfl) (fun k x => q21_2 K (impll21_2 K k) x.1 x.2.1 x.2.2.1 x.2.2.2.1 x.2.2.2.2.1 x.2.2.2.2.2.1 x.2.2.2.2.2.2.1 x.2.2.2.2.2.2.2.1 x.2.2.2.2.2.2.2.2.1 x.2.2.2.2.2.2.2.2.2.1) K
noncomputable def L21_1 (K : Nat) : Lib := mkLib ti [(31, [e31 K]), (78, [e78a K, e78b K, e78c K, e78d K]), (60, [e60 K]), (61, [e61 K]), (62, [e62 K]), (63, [e63 K]), (64, [e64 K])] [(58, Try.f58), (59, Try.f59)] 21 [(2, [n21_2 K])]
theorem lib21_1 (K : Nat) : LibOk Try.prog (L21_1 K) := libOk_mk (ents := [(31, [e31 K]), (78, [e78a K, e78b K, e78c K, e78d K]), (60, [e60 K]), (61, [e61 K]), (62, [e62 K]), (63, [e63 K]), (64, [e64 K])]) (bodies := [(58, Try.f58), (59, Try.f59)]) (loops := [(2, [n21_2 K])]) order tiOk ⟨one_ent (e31_ok K), more_ent (e78a_ok K) (more_ent (e78b_ok K) (more_ent (e78c_ok K) (one_ent (e78d_ok K)))), one_ent (e60_ok K), one_ent (e61_ok K), one_ent (e62_ok K), one_ent (e63_ok K), one_ent (e64_ok K), trivial⟩ ⟨bod58, bod59, trivial⟩ Try.func21 rfl lp21 ⟨no_lent, one_lent (n21_2_ok K), trivial⟩
noncomputable def implb21_0 (K : Nat) (rc : (List (Int × (Int × Int))) → (List Int) → (List (Int × (Int × Int))) → Int → Int → Option (Sum (Int × Unit) (Int × Int × Unit))) (x1 : (List (Int × (Int × Int)))) (x2 : (List Int)) (x3 : (List (Int × (Int × Int)))) (x4 : Int) (x5 : Int) : Option (Sum (Int × Unit) (Int × Int × Unit)) :=
  (bif decide (x5 < x4) then (if (0 : Int) ≤ x5 ∧ x5 < (↑x3.length : Int) then (if (0 : Int) ≤ (0 : Int) ∧ (0 : Int) ≤ x5 ∧ x5 ≤ (↑x1.length : Int) then (ob (impll21_2 K K x1 x2 x5 (x3.getD x5.toNat ((0 : Int), (0 : Int), (0 : Int))) x3 x4 x5 (List.take x5.toNat x1) (Int.ofNat (List.take x5.toNat x1).length) ((0 : Int))) fun y1 => (match y1 with | .inl y2 => (rc x1 x2 x3 x4 (IntKind.i64.wrap (x5 + (1 : Int)))) | .inr y2 => some (Sum.inr (y2.1, y2.2.1, ())))) else none) else none) else some (Sum.inl (x5, ())))
noncomputable def impll21_0 (K : Nat) : Nat → (List (Int × (Int × Int))) → (List Int) → (List (Int × (Int × Int))) → Int → Int → Option (Sum (Int × Unit) (Int × Int × Unit))
  | 0, _, _, _, _, _ => none
  | k + 1, x1, x2, x3, x4, x5 => implb21_0 K (impll21_0 K k) x1 x2 x3 x4 x5
noncomputable def n21_0 (K : Nat) : Lent := ⟨[0, 1, 26, 27, 28], i21_0, [29, 30, 31, 32, 8, 7, 33, 34, 35, 36, 37, 38, 39, 40, 41, 10, 9, 42, 43, 44, 45, 46, 47, 48, 49, 50, 51, 52, 53, 54, 55, 4, 5, 56, 57], [0], true, res21, fun x => impll21_0 K K x.1 x.2.1 x.2.2.1 x.2.2.2.1 x.2.2.2.2.1, []⟩
theorem q21_0 (K : Nat) (rc : (List (Int × (Int × Int))) → (List Int) → (List (Int × (Int × Int))) → Int → Int → Option (Sum (Int × Unit) (Int × Int × Unit))) (x1 : (List (Int × (Int × Int)))) (x2 : (List Int)) (x3 : (List (Int × (Int × Int)))) (x4 : Int) (x5 : Int) : evLoop (L21_1 K) 3 21 Try.f21.results.toList (loopOf 0 (codeOf Try.f21)) 0 [0, 1, 26, 27, 28] [] i21_0 [0] true res21 (fun x => rc x.1 x.2.1 x.2.2.1 x.2.2.2.1 x.2.2.2.2.1) (x1, x2, x3, x4, x5, ()) = implb21_0 K rc x1 x2 x3 x4 x5 := by kernel_rfl
theorem lp21_0 : loopsIn (loopOf 0 (codeOf Try.f21)) 0 = [(2, loopOf 2 (codeOf Try.f21))] := by kernel_rfl
theorem n21_0_ok (K : Nat) : LentOk Try.prog Try.f21 (loopOf 0 (codeOf Try.f21)) (n21_0 K) := lentOk_k (slots := [0, 1, 26, 27, 28]) (ali := []) (ins := i21_0) (writes := [29, 30, 31, 32, 8, 7, 33, 34, 35, 36, 37, 38, 39, 40, 41, 10, 9, 42, 43, 44, 45, 46, 47, 48, 49, 50, 51, 52, 53, 54, 55, 4, 5, 56, 57]) (exits := [0]) (rets := true) (rs := res21) (lib21_1 K) lp21_0 ⟨one_lent (n21_2_ok K), trivial⟩ (by kernel_rfl) (by kernel_rfl) (by kernel_rfl) (by kernel_rfl) (by kernel_rfl) (fun k x => impll21_0 K k x.1 x.2.1 x.2.2.1 x.2.2.2.1 x.2.2.2.2.1) (fun _ => rfl) (fun k x => q21_0 K (impll21_0 K k) x.1 x.2.1 x.2.2.1 x.2.2.2.1 x.2.2.2.2.1) K
noncomputable def L21_2 (K : Nat) : Lib := mkLib ti [(31, [e31 K]), (78, [e78a K, e78b K, e78c K, e78d K]), (60, [e60 K]), (61, [e61 K]), (62, [e62 K]), (63, [e63 K]), (64, [e64 K])] [(58, Try.f58), (59, Try.f59)] 21 [(2, [n21_2 K]), (0, [n21_0 K])]
theorem lib21_2 (K : Nat) : LibOk Try.prog (L21_2 K) := libOk_mk (ents := [(31, [e31 K]), (78, [e78a K, e78b K, e78c K, e78d K]), (60, [e60 K]), (61, [e61 K]), (62, [e62 K]), (63, [e63 K]), (64, [e64 K])]) (bodies := [(58, Try.f58), (59, Try.f59)]) (loops := [(2, [n21_2 K]), (0, [n21_0 K])]) order tiOk ⟨one_ent (e31_ok K), more_ent (e78a_ok K) (more_ent (e78b_ok K) (more_ent (e78c_ok K) (one_ent (e78d_ok K)))), one_ent (e60_ok K), one_ent (e61_ok K), one_ent (e62_ok K), one_ent (e63_ok K), one_ent (e64_ok K), trivial⟩ ⟨bod58, bod59, trivial⟩ Try.func21 rfl lp21 ⟨one_lent (n21_0_ok K), one_lent (n21_2_ok K), trivial⟩
noncomputable def implf21 (K : Nat) (x1 : (List (Int × (Int × Int)))) (x2 : (List Int)) : Option (Int × Int) :=
  (ob (implf31 K x1) fun y1 => (bif y1 != (0 : Int) then some (((0 : Int), y1)) else (bif (↑x2.length : Int) != (↑x1.length : Int) then some (((0 : Int), (1 : Int))) else (ob (implf78a K x2 ()) fun y2 => (bif decide (y2 ≥ (0 : Int)) then some (((0 : Int), (1 : Int))) else (ob (impll21_0 K K x1 x2 x1 ((↑x1.length : Int)) ((0 : Int))) fun y3 => (match y3 with | .inl y4 => (ob (implf62 K x2) fun y5 => (ob (implf63 K y5) fun y6 => (ob (implf64 K y6) fun y7 => some (((↑y7.length : Int), (0 : Int)))))) | .inr y4 => some ((y4.1, y4.2.1)))))))))
theorem q21 (K : Nat) (x1 : (List (Int × (Int × Int)))) (x2 : (List Int)) : evFnK (α := Int × Int) (L21_2 K) 3 21 Try.f21.results.toList (codeOf Try.f21) ins21 res21 (fun p => (p.1.1, p.1.2.1)) (x1, x2, ()) = implf21 K x1 x2 := by kernel_rfl
noncomputable def e21 (K : Nat) : Ent := ⟨ins21, res21, Int × Int, fun x => implf21 K x.1 x.2.1, fun _ => (fun y => ((y.1, y.2, ()), (()))), false⟩
theorem e21_ok (K : Nat) : EntOk Try.prog 21 (e21 K) := entOk_k (ins := ins21) (rs := res21) (α := Int × Int) (lib21_2 K) (d := 3) Try.func21 rfl (by kernel_rfl) (by kernel_rfl) (by kernel_rfl) (fun x => implf21 K x.1 x.2.1) (fun p => (p.1.1, p.1.2.1)) (fun y => ((y.1, y.2, ()), (()))) (fun _ => rfl) (fun x => q21 K x.1 x.2.1)

/-! slices.SortFunc[[]diaphone/watch.shift,diaphone/watch.shift] -/
abbrev ins93a : Fs := [(.own (.pr (.pr (.int .i64) (.pr (.int .i64) (.int .i64))) (.int .i64)), true), (.fn 68 .un, false)]
abbrev res93a : Sh := .nix
noncomputable def implf93a (K : Nat) (x1 : List ((Int × (Int × Int)) × Int)) : Option (List ((Int × (Int × Int)) × Int)) := if x1.length ≤ 1000 ∧ (x1.map (fun y => y.2)).Nodup then some (isort le68 x1) else none
noncomputable def e93a (K : Nat) : Ent := ⟨ins93a, res93a, List ((Int × (Int × Int)) × Int), fun x => implf93a K x.1, fun _ => (fun y => ((), (y, ()))), false⟩
theorem cmp95 (K : Nat) (a b : Int) : implf95 K a b = some (cmpI a b) := by
  unfold implf95 cmpI
  by_cases h1 : a < b
  · simp [h1]
  · by_cases h2 : b < a <;> simp [h1, h2]
theorem or94 (a b : Int) : implf94 5 (((List.replicate 2 (0 : Int)).set 0 a).set 1 b) = some (if a = 0 then b else a) := by
  have w1 : IntKind.i64.wrap 1 = 1 := by decide
  have w2 : IntKind.i64.wrap 2 = 2 := by decide
  by_cases ha : a = 0
  · by_cases hb : b = 0
    · subst ha hb
      simp [implf94, impll94_0, implb94_0, ob, w1, w2]
    · subst ha
      simp [implf94, impll94_0, implb94_0, ob, w1, w2, bne, beq_false_of_ne hb]
  · simp [implf94, impll94_0, implb94_0, ob, w1, w2, bne, beq_false_of_ne ha]
    exact fun h => absurd h ha
theorem cmp68 (x y : (Int × (Int × Int)) × Int) : implf68 5 x y = some (cmp2 x.1.1 y.1.1 x.2 y.2) := by
  unfold implf68
  rw [cmp95, cmp95]
  show ob (implf94 5 (((List.replicate 2 (0 : Int)).set 0 (cmpI x.1.1 y.1.1)).set 1 (cmpI x.2 y.2))) _ = _
  rw [or94]
  rfl
set_option maxRecDepth 100000 in
theorem e93a_ok (K : Nat) : EntOk Try.prog 93 (e93a K) :=
  sortFunc_ent (P := Try.prog) (ρ := sortF_ren) sortF ⟨_, _, Try.func93, rfl, by kernel_rfl⟩ (e := .pr shT (.int .i64)) rfl Try.isAgg74 Try.sizeOf74 (g := 68) (cf := fun x y => cmp2 x.1.1 y.1.1 x.2 y.2) (le := le68) (fun x y => le2 _ _ _ _) (fun a b c h1 h2 => le2_tr h1 h2) (fun a b => le2_to _ _ _ _)
    (key := fun y => y.2) (fun a b h1 h2 => le2_key h1 h2) (enter_of Try.func68 rfl (by kernel_rfl)) (fun x y W => EntOk.cmp (e68_ok 5) rfl rfl (fun x y => cmp68 x y) x y W)

abbrev ins93b : Fs := [(.own (.pr (.pr (.int .i64) (.pr (.int .i64) (.int .i64))) (.int .i64)), true), (.fn 70 .un, false)]
abbrev res93b : Sh := .nix
noncomputable def implf93b (K : Nat) (x1 : List ((Int × (Int × Int)) × Int)) : Option (List ((Int × (Int × Int)) × Int)) := if x1.length ≤ 1000 ∧ (x1.map (fun y => y.2)).Nodup then some (isort le70 x1) else none
noncomputable def e93b (K : Nat) : Ent := ⟨ins93b, res93b, List ((Int × (Int × Int)) × Int), fun x => implf93b K x.1, fun _ => (fun y => ((), (y, ()))), false⟩
theorem cmp70 (x y : (Int × (Int × Int)) × Int) : implf70 5 x y = some (cmp2 x.1.2.1 y.1.2.1 x.2 y.2) := by
  unfold implf70
  rw [cmp95, cmp95]
  show ob (implf94 5 (((List.replicate 2 (0 : Int)).set 0 (cmpI x.1.2.1 y.1.2.1)).set 1 (cmpI x.2 y.2))) _ = _
  rw [or94]
  rfl
set_option maxRecDepth 100000 in
theorem e93b_ok (K : Nat) : EntOk Try.prog 93 (e93b K) :=
  sortFunc_ent (P := Try.prog) (ρ := sortF_ren) sortF ⟨_, _, Try.func93, rfl, by kernel_rfl⟩ (e := .pr shT (.int .i64)) rfl Try.isAgg74 Try.sizeOf74 (g := 70) (cf := fun x y => cmp2 x.1.2.1 y.1.2.1 x.2 y.2) (le := le70) (fun x y => le2 _ _ _ _) (fun a b c h1 h2 => le2_tr h1 h2) (fun a b => le2_to _ _ _ _)
    (key := fun y => y.2) (fun a b h1 h2 => le2_key h1 h2) (enter_of Try.func70 rfl (by kernel_rfl)) (fun x y W => EntOk.cmp (e70_ok 5) rfl rfl (fun x y => cmp70 x y) x y W)

end Go.Proofs.Ytbojnkcolamneaa
