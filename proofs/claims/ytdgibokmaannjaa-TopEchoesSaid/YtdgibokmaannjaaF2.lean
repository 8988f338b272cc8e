/- What the functions compute: printed by a program of this claim's author. -/
import Derived.Test.YtdgibokmaannjaaF1
set_option maxRecDepth 100000
set_option linter.unusedVariables false
set_option linter.unusedSimpArgs false
namespace Go.Proofs.Ytdgibokmaannjaa
open Go Go.Pv

/-! diaphone/echo.every -/
abbrev ins75 : Fs := [(.dat (.sl (.int .i64)), false)]
abbrev res75 : Sh := .own (.sl (.int .i64))
theorem lp75 : loopsIn (codeOf Try.f75) 0 = [] := by kernel_rfl
noncomputable def L75_0 (K : Nat) : Lib := mkLib ti [(110, [e110 K]), (95, [e95 K]), (96, [e96 K]), (97, [e97 K]), (98, [e98 K])] [(69, Try.f69), (94, Try.f94)] 75 []
theorem lib75_0 (K : Nat) : LibOk Try.prog (L75_0 K) := libOk_mk (ents := [(110, [e110 K]), (95, [e95 K]), (96, [e96 K]), (97, [e97 K]), (98, [e98 K])]) (bodies := [(69, Try.f69), (94, Try.f94)]) (loops := []) order tiOk ⟨one_ent (e110_ok K), one_ent (e95_ok K), one_ent (e96_ok K), one_ent (e97_ok K), one_ent (e98_ok K), trivial⟩ ⟨bod69, bod94, trivial⟩ Try.func75 rfl lp75 trivial
noncomputable def implf75 (K : Nat) (x1 : (List Int)) : Option ((List (List Int))) :=
  (ob (implf95 K x1 ([], ())) fun y1 => (ob (implf97 K y1.1) fun y2 => (ob (implf98 K y2) fun y3 => some (y3))))
theorem q75 (K : Nat) (x1 : (List Int)) : evFnK (α := (List (List Int))) (L75_0 K) 3 75 Try.f75.results.toList (codeOf Try.f75) ins75 res75 (fun p => p.1) (x1, ()) = implf75 K x1 := by kernel_rfl
noncomputable def e75 (K : Nat) : Ent := ⟨ins75, res75, (List (List Int)), fun x => implf75 K x.1, fun _ => (fun y => (y, (()))), false⟩
theorem e75_ok (K : Nat) : EntOk Try.prog 75 (e75 K) := entOk_k (ins := ins75) (rs := res75) (α := (List (List Int))) (lib75_0 K) (d := 3) Try.func75 rfl (by kernel_rfl) (by kernel_rfl) (by kernel_rfl) (fun x => implf75 K x.1) (fun p => p.1) (fun y => (y, (()))) (fun _ => rfl) (fun x => q75 K x.1)

/-! slices.IsSorted[[]int,int] -/
abbrev ins91 : Fs := [(.dat (.sl (.int .i64)), false)]
abbrev res91 : Sh := .dat (.bool)
theorem lp91 : loopsIn (codeOf Try.f91) 0 = [(0, loopOf 0 (codeOf Try.f91))] := by kernel_rfl
noncomputable def L91_0 (K : Nat) : Lib := mkLib ti [(103, [e103 K])] [] 91 []
theorem lib91_0 (K : Nat) : LibOk Try.prog (L91_0 K) := libOk_mk (ents := [(103, [e103 K])]) (bodies := []) (loops := []) order tiOk ⟨one_ent (e103_ok K), trivial⟩ trivial Try.func91 rfl lp91 ⟨no_lent, trivial⟩
abbrev i91_0 : Fs := [(.dat (.sl (.int Go.IntKind.i64)), false), (.dat (.int Go.IntKind.i64), true)]
noncomputable def implb91_0 (K : Nat) (rc : (List Int) → Int → Option (Sum (Int × Unit) Bool)) (x1 : (List Int)) (x2 : Int) : Option (Sum (Int × Unit) Bool) :=
  (bif decide (x2 > (0 : Int)) then (if (0 : Int) ≤ x2 ∧ x2 < (↑x1.length : Int) then (if (0 : Int) ≤ IntKind.i64.wrap (x2 - (1 : Int)) ∧ IntKind.i64.wrap (x2 - (1 : Int)) < (↑x1.length : Int) then (ob (implf103 K (x1.getD x2.toNat ((0 : Int))) (x1.getD (IntKind.i64.wrap (x2 - (1 : Int))).toNat ((0 : Int)))) fun y1 => (bif y1 then some (Sum.inr false) else (rc x1 (IntKind.i64.wrap (x2 - (1 : Int)))))) else none) else none) else some (Sum.inl (x2, ())))
noncomputable def impll91_0 (K : Nat) : Nat → (List Int) → Int → Option (Sum (Int × Unit) Bool)
  | 0, _, _ => none
  | k + 1, x1, x2 => implb91_0 K (impll91_0 K k) x1 x2
noncomputable def n91_0 (K : Nat) : Lent := ⟨[0, 3], i91_0, [7, 8, 11, 12, 13, 14, 15, 16, 17, 18, 19, 20, 2, 9, 10], [0], true, res91, fun x => impll91_0 K K x.1 x.2.1, [], none⟩
theorem q91_0 (K : Nat) (rc : (List Int) → Int → Option (Sum (Int × Unit) Bool)) (x1 : (List Int)) (x2 : Int) : evLoop (L91_0 K) 3 91 Try.f91.results.toList (loopOf 0 (codeOf Try.f91)) 0 [0, 3] [] i91_0 [0] true res91 (fun x => rc x.1 x.2.1) (x1, x2, ()) = implb91_0 K rc x1 x2 := by kernel_rfl
theorem lp91_0 : loopsIn (loopOf 0 (codeOf Try.f91)) 0 = [] := by kernel_rfl
theorem n91_0_ok (K : Nat) : LentOk Try.prog Try.f91 (loopOf 0 (codeOf Try.f91)) (n91_0 K) := lentOk_k (slots := [0, 3]) (ali := []) (ins := i91_0) (writes := [7, 8, 11, 12, 13, 14, 15, 16, 17, 18, 19, 20, 2, 9, 10]) (exits := [0]) (rets := true) (rs := res91) (d := 3) (lib91_0 K) lp91_0 trivial (by kernel_rfl) (by kernel_rfl) (by kernel_rfl) (by kernel_rfl) (by kernel_rfl) (fun k x => impll91_0 K k x.1 x.2.1) (fun _ => rfl) (fun k x => q91_0 K (impll91_0 K k) x.1 x.2.1) K
noncomputable def L91_1 (K : Nat) : Lib := mkLib ti [(103, [e103 K])] [] 91 [(0, [n91_0 K])]
theorem lib91_1 (K : Nat) : LibOk Try.prog (L91_1 K) := libOk_mk (ents := [(103, [e103 K])]) (bodies := []) (loops := [(0, [n91_0 K])]) order tiOk ⟨one_ent (e103_ok K), trivial⟩ trivial Try.func91 rfl lp91 ⟨one_lent (n91_0_ok K), trivial⟩
noncomputable def implf91 (K : Nat) (x1 : (List Int)) : Option (Bool) :=
  (ob (impll91_0 K K x1 (IntKind.i64.wrap ((↑x1.length : Int) - (1 : Int)))) fun y1 => (match y1 with | .inl y2 => some (true) | .inr y2 => some (y2)))
theorem q91 (K : Nat) (x1 : (List Int)) : evFnK (α := Bool) (L91_1 K) 3 91 Try.f91.results.toList (codeOf Try.f91) ins91 res91 (fun p => p.1) (x1, ()) = implf91 K x1 := by kernel_rfl
noncomputable def e91 (K : Nat) : Ent := ⟨ins91, res91, Bool, fun x => implf91 K x.1, fun _ => (fun y => (y, (()))), false⟩
theorem e91_ok (K : Nat) : EntOk Try.prog 91 (e91 K) := entOk_k (ins := ins91) (rs := res91) (α := Bool) (lib91_1 K) (d := 3) Try.func91 rfl (by kernel_rfl) (by kernel_rfl) (by kernel_rfl) (fun x => implf91 K x.1) (fun p => p.1) (fun y => (y, (()))) (fun _ => rfl) (fun x => q91 K x.1)

/-! diaphone/echo.within -/
abbrev ins61 : Fs := [(.dat (.int .i64), false), (.dat (.int .i64), false), (.dat (.int .i64), false)]
abbrev res61 : Sh := .dat (.bool)
theorem lp61 : loopsIn (codeOf Try.f61) 0 = [] := by kernel_rfl
noncomputable def L61_0 (K : Nat) : Lib := mkLib ti [] [] 61 []
theorem lib61_0 (K : Nat) : LibOk Try.prog (L61_0 K) := libOk_mk (ents := []) (bodies := []) (loops := []) order tiOk trivial trivial Try.func61 rfl lp61 trivial
noncomputable def implf61 (K : Nat) (x1 : Int) (x2 : Int) (x3 : Int) : Option (Bool) :=
  (bif decide (x1 ≥ x2) then some (decide (x1 ≤ x3)) else some (false))
theorem q61 (K : Nat) (x1 : Int) (x2 : Int) (x3 : Int) : evFnK (α := Bool) (L61_0 K) 3 61 Try.f61.results.toList (codeOf Try.f61) ins61 res61 (fun p => p.1) (x1, x2, x3, ()) = implf61 K x1 x2 x3 := by kernel_rfl
noncomputable def e61 (K : Nat) : Ent := ⟨ins61, res61, Bool, fun x => implf61 K x.1 x.2.1 x.2.2.1, fun _ => (fun y => (y, (()))), false⟩
theorem e61_ok (K : Nat) : EntOk Try.prog 61 (e61 K) := entOk_k (ins := ins61) (rs := res61) (α := Bool) (lib61_0 K) (d := 3) Try.func61 rfl (by kernel_rfl) (by kernel_rfl) (by kernel_rfl) (fun x => implf61 K x.1 x.2.1 x.2.2.1) (fun p => p.1) (fun y => (y, (()))) (fun _ => rfl) (fun x => q61 K x.1 x.2.1 x.2.2.1)

/-! slices.IndexFunc[[]int,int] -/
abbrev ins109 : Fs := [(.dat (.sl (.int .i64)), false), (.fn 93 .un, false)]
abbrev res109 : Sh := .dat (.int .i64)
theorem lp109 : loopsIn (codeOf Try.f109) 0 = [(0, loopOf 0 (codeOf Try.f109))] := by kernel_rfl
noncomputable def L109_0 (K : Nat) : Lib := mkLib ti [(61, [e61 K])] [(93, Try.f93)] 109 []
theorem lib109_0 (K : Nat) : LibOk Try.prog (L109_0 K) := libOk_mk (ents := [(61, [e61 K])]) (bodies := [(93, Try.f93)]) (loops := []) order tiOk ⟨one_ent (e61_ok K), trivial⟩ ⟨bod93, trivial⟩ Try.func109 rfl lp109 ⟨no_lent, trivial⟩
abbrev i109_0 : Fs := [(.dat (.sl (.int Go.IntKind.i64)), false), (.fn 93 (.un), false), (.dat (.int Go.IntKind.i64), false), (.dat (.int Go.IntKind.i64), true)]
noncomputable def implb109_0 (K : Nat) (rc : (List Int) → Unit → Int → Int → Option (Sum (Int × Unit) Int)) (x1 : (List Int)) (x2 : Unit) (x3 : Int) (x4 : Int) : Option (Sum (Int × Unit) Int) :=
  (bif decide (x4 < x3) then (if (0 : Int) ≤ x4 ∧ x4 < (↑x1.length : Int) then (ob (implf61 K (x1.getD x4.toNat ((0 : Int))) ((1 : Int)) ((60 : Int))) fun y1 => (bif !y1 then some (Sum.inr x4) else (rc x1 x2 x3 (IntKind.i64.wrap (x4 + (1 : Int)))))) else none) else some (Sum.inl (x4, ())))
noncomputable def impll109_0 (K : Nat) : Nat → (List Int) → Unit → Int → Int → Option (Sum (Int × Unit) Int)
  | 0, _, _, _, _ => none
  | k + 1, x1, x2, x3, x4 => implb109_0 K (impll109_0 K k) x1 x2 x3 x4
noncomputable def n109_0 (K : Nat) : Lent := ⟨[0, 1, 7, 8], i109_0, [9, 10, 5, 11, 12, 13, 14, 15, 16, 17, 4, 18], [0], true, res109, fun x => impll109_0 K K x.1 x.2.1 x.2.2.1 x.2.2.2.1, [], none⟩
theorem q109_0 (K : Nat) (rc : (List Int) → Unit → Int → Int → Option (Sum (Int × Unit) Int)) (x1 : (List Int)) (x2 : Unit) (x3 : Int) (x4 : Int) : evLoop (L109_0 K) 3 109 Try.f109.results.toList (loopOf 0 (codeOf Try.f109)) 0 [0, 1, 7, 8] [] i109_0 [0] true res109 (fun x => rc x.1 x.2.1 x.2.2.1 x.2.2.2.1) (x1, x2, x3, x4, ()) = implb109_0 K rc x1 x2 x3 x4 := by kernel_rfl
theorem lp109_0 : loopsIn (loopOf 0 (codeOf Try.f109)) 0 = [] := by kernel_rfl
theorem n109_0_ok (K : Nat) : LentOk Try.prog Try.f109 (loopOf 0 (codeOf Try.f109)) (n109_0 K) := lentOk_k (slots := [0, 1, 7, 8]) (ali := []) (ins := i109_0) (writes := [9, 10, 5, 11, 12, 13, 14, 15, 16, 17, 4, 18]) (exits := [0]) (rets := true) (rs := res109) (d := 3) (lib109_0 K) lp109_0 trivial (by kernel_rfl) (by kernel_rfl) (by kernel_rfl) (by kernel_rfl) (by kernel_rfl) (fun k x => impll109_0 K k x.1 x.2.1 x.2.2.1 x.2.2.2.1) (fun _ => rfl) (fun k x => q109_0 K (impll109_0 K k) x.1 x.2.1 x.2.2.1 x.2.2.2.1) K
noncomputable def L109_1 (K : Nat) : Lib := mkLib ti [(61, [e61 K])] [(93, Try.f93)] 109 [(0, [n109_0 K])]
theorem lib109_1 (K : Nat) : LibOk Try.prog (L109_1 K) := libOk_mk (ents := [(61, [e61 K])]) (bodies := [(93, Try.f93)]) (loops := [(0, [n109_0 K])]) order tiOk ⟨one_ent (e61_ok K), trivial⟩ ⟨bod93, trivial⟩ Try.func109 rfl lp109 ⟨one_lent (n109_0_ok K), trivial⟩
noncomputable def implf109 (K : Nat) (x1 : (List Int)) (x2 : Unit) : Option (Int) :=
  (ob (impll109_0 K K x1 () ((↑x1.length : Int)) ((0 : Int))) fun y1 => (match y1 with | .inl y2 => some ((-1 : Int)) | .inr y2 => some (y2)))
theorem q109 (K : Nat) (x1 : (List Int)) (x2 : Unit) : evFnK (α := Int) (L109_1 K) 3 109 Try.f109.results.toList (codeOf Try.f109) ins109 res109 (fun p => p.1) (x1, x2, ()) = implf109 K x1 x2 := by kernel_rfl
noncomputable def e109 (K : Nat) : Ent := ⟨ins109, res109, Int, fun x => implf109 K x.1 x.2.1, fun _ => (fun y => (y, (()))), false⟩
theorem e109_ok (K : Nat) : EntOk Try.prog 109 (e109 K) := entOk_k (ins := ins109) (rs := res109) (α := Int) (lib109_1 K) (d := 3) Try.func109 rfl (by kernel_rfl) (by kernel_rfl) (by kernel_rfl) (fun x => implf109 K x.1 x.2.1) (fun p => p.1) (fun y => (y, (()))) (fun _ => rfl) (fun x => q109 K x.1 x.2.1)

/-! diaphone/echo.claimed -/
abbrev ins72 : Fs := [(.dat (.sl (.int .i64)), false)]
abbrev res72 : Sh := .dat (.int .i64)
theorem lp72 : loopsIn (codeOf Try.f72) 0 = [] := by kernel_rfl
noncomputable def L72_0 (K : Nat) : Lib := mkLib ti [(100, [e100 K]), (91, [e91 K]), (109, [e109 K]), (61, [e61 K])] [(79, Try.f79), (92, Try.f92), (93, Try.f93)] 72 []
theorem lib72_0 (K : Nat) : LibOk Try.prog (L72_0 K) := libOk_mk (ents := [(100, [e100 K]), (91, [e91 K]), (109, [e109 K]), (61, [e61 K])]) (bodies := [(79, Try.f79), (92, Try.f92), (93, Try.f93)]) (loops := []) order tiOk ⟨one_ent (e100_ok K), one_ent (e91_ok K), one_ent (e109_ok K), one_ent (e61_ok K), trivial⟩ ⟨bod79, bod92, bod93, trivial⟩ Try.func72 rfl lp72 trivial
noncomputable def implf72 (K : Nat) (x1 : (List Int)) : Option (Int) :=
  (bif decide ((↑x1.length : Int) > (15 : Int)) then some ((3 : Int)) else (ob (implf100 K (((((((List.replicate 6 ((0 : Int))).set 0 ((0 : Int))).set 1 ((1 : Int))).set 2 ((3 : Int))).set 3 ((6 : Int))).set 4 ((10 : Int))).set 5 ((15 : Int))) ((↑x1.length : Int))) fun y1 => (bif !decide (y1 ≥ (0 : Int)) then some ((1 : Int)) else (ob (implf91 K x1) fun y2 => (bif !y2 then some ((1 : Int)) else (ob (implf109 K x1 ()) fun y3 => (bif decide (y3 ≥ (0 : Int)) then some ((1 : Int)) else some ((0 : Int)))))))))
theorem q72 (K : Nat) (x1 : (List Int)) : evFnK (α := Int) (L72_0 K) 3 72 Try.f72.results.toList (codeOf Try.f72) ins72 res72 (fun p => p.1) (x1, ()) = implf72 K x1 := by kernel_rfl
noncomputable def e72 (K : Nat) : Ent := ⟨ins72, res72, Int, fun x => implf72 K x.1, fun _ => (fun y => (y, (()))), false⟩
theorem e72_ok (K : Nat) : EntOk Try.prog 72 (e72 K) := entOk_k (ins := ins72) (rs := res72) (α := Int) (lib72_0 K) (d := 3) Try.func72 rfl (by kernel_rfl) (by kernel_rfl) (by kernel_rfl) (fun x => implf72 K x.1) (fun p => p.1) (fun y => (y, (()))) (fun _ => rfl) (fun x => q72 K x.1)

/-! diaphone/echo.All -/
abbrev ins37 : Fs := [(.dat (.sl (.int .i64)), false)]
abbrev res37 : Sh := .cons (.own (.sl (.int .i64))) (.cons (.dat (.int .i64)) (.un))
theorem lp37 : loopsIn (codeOf Try.f37) 0 = [] := by kernel_rfl
noncomputable def L37_0 (K : Nat) : Lib := mkLib ti [(72, [e72 K]), (110, [e110 K]), (95, [e95 K]), (96, [e96 K]), (97, [e97 K]), (98, [e98 K])] [(69, Try.f69), (75, Try.f75), (94, Try.f94)] 37 []
theorem lib37_0 (K : Nat) : LibOk Try.prog (L37_0 K) := libOk_mk (ents := [(72, [e72 K]), (110, [e110 K]), (95, [e95 K]), (96, [e96 K]), (97, [e97 K]), (98, [e98 K])]) (bodies := [(69, Try.f69), (75, Try.f75), (94, Try.f94)]) (loops := []) order tiOk ⟨one_ent (e72_ok K), one_ent (e110_ok K), one_ent (e95_ok K), one_ent (e96_ok K), one_ent (e97_ok K), one_ent (e98_ok K), trivial⟩ ⟨bod69, bod75, bod94, trivial⟩ Try.func37 rfl lp37 trivial
noncomputable def implf37 (K : Nat) (x1 : (List Int)) : Option ((List (List Int)) × Int) :=
  (ob (implf72 K x1) fun y1 => (bif y1 != (0 : Int) then some (([], y1)) else (ob (implf95 K x1 ([], ())) fun y2 => (ob (implf97 K y2.1) fun y3 => (ob (implf98 K y3) fun y4 => some ((y4, (0 : Int))))))))
theorem q37 (K : Nat) (x1 : (List Int)) : evFnK (α := (List (List Int)) × Int) (L37_0 K) 3 37 Try.f37.results.toList (codeOf Try.f37) ins37 res37 (fun p => (p.1.1, p.1.2.1)) (x1, ()) = implf37 K x1 := by kernel_rfl
noncomputable def e37 (K : Nat) : Ent := ⟨ins37, res37, (List (List Int)) × Int, fun x => implf37 K x.1, fun _ => (fun y => ((y.1, y.2, ()), (()))), false⟩
theorem e37_ok (K : Nat) : EntOk Try.prog 37 (e37 K) := entOk_k (ins := ins37) (rs := res37) (α := (List (List Int)) × Int) (lib37_0 K) (d := 3) Try.func37 rfl (by kernel_rfl) (by kernel_rfl) (by kernel_rfl) (fun x => implf37 K x.1) (fun p => (p.1.1, p.1.2.1)) (fun y => ((y.1, y.2, ()), (()))) (fun _ => rfl) (fun x => q37 K x.1)

/-! diaphone/diaphonelaw05.Long -/
abbrev ins18 : Fs := [(.dat (.sl (.sl (.int .i64))), false)]
abbrev res18 : Sh := .dat (.bool)
theorem lp18 : loopsIn (codeOf Try.f18) 0 = [(0, loopOf 0 (codeOf Try.f18))] := by kernel_rfl
noncomputable def L18_0 (K : Nat) : Lib := mkLib ti [] [] 18 []
theorem lib18_0 (K : Nat) : LibOk Try.prog (L18_0 K) := libOk_mk (ents := []) (bodies := []) (loops := []) order tiOk trivial trivial Try.func18 rfl lp18 ⟨no_lent, trivial⟩
abbrev i18_0 : Fs := [(.dat (.sl (.sl (.int Go.IntKind.i64))), false), (.dat (.int Go.IntKind.i64), true)]
noncomputable def implb18_0 (K : Nat) (rc : (List (List Int)) → Int → Option (Sum (Int × Unit) Bool)) (x1 : (List (List Int))) (x2 : Int) : Option (Sum (Int × Unit) Bool) :=
  (bif decide (x2 < (↑x1.length : Int)) then (if (0 : Int) ≤ x2 ∧ x2 < (↑x1.length : Int) then (bif decide ((↑(x1.getD x2.toNat []).length : Int) > (100 : Int)) then some (Sum.inr true) else (rc x1 (IntKind.i64.wrap (x2 + (1 : Int))))) else none) else some (Sum.inl (x2, ())))
noncomputable def impll18_0 (K : Nat) : Nat → (List (List Int)) → Int → Option (Sum (Int × Unit) Bool)
  | 0, _, _ => none
  | k + 1, x1, x2 => implb18_0 K (impll18_0 K k) x1 x2
noncomputable def n18_0 (K : Nat) : Lent := ⟨[0, 3], i18_0, [4, 5, 6, 7, 10, 11, 12, 13, 14, 15, 2, 8, 9], [0], true, res18, fun x => impll18_0 K K x.1 x.2.1, [], none⟩
theorem q18_0 (K : Nat) (rc : (List (List Int)) → Int → Option (Sum (Int × Unit) Bool)) (x1 : (List (List Int))) (x2 : Int) : evLoop (L18_0 K) 3 18 Try.f18.results.toList (loopOf 0 (codeOf Try.f18)) 0 [0, 3] [] i18_0 [0] true res18 (fun x => rc x.1 x.2.1) (x1, x2, ()) = implb18_0 K rc x1 x2 := by kernel_rfl
theorem lp18_0 : loopsIn (loopOf 0 (codeOf Try.f18)) 0 = [] := by kernel_rfl
theorem n18_0_ok (K : Nat) : LentOk Try.prog Try.f18 (loopOf 0 (codeOf Try.f18)) (n18_0 K) := lentOk_k (slots := [0, 3]) (ali := []) (ins := i18_0) (writes := [4, 5, 6, 7, 10, 11, 12, 13, 14, 15, 2, 8, 9]) (exits := [0]) (rets := true) (rs := res18) (d := 3) (lib18_0 K) lp18_0 trivial (by kernel_rfl) (by kernel_rfl) (by kernel_rfl) (by kernel_rfl) (by kernel_rfl) (fun k x => impll18_0 K k x.1 x.2.1) (fun _ => rfl) (fun k x => q18_0 K (impll18_0 K k) x.1 x.2.1) K
noncomputable def L18_1 (K : Nat) : Lib := mkLib ti [] [] 18 [(0, [n18_0 K])]
theorem lib18_1 (K : Nat) : LibOk Try.prog (L18_1 K) := libOk_mk (ents := []) (bodies := []) (loops := [(0, [n18_0 K])]) order tiOk trivial trivial Try.func18 rfl lp18 ⟨one_lent (n18_0_ok K), trivial⟩
noncomputable def implf18 (K : Nat) (x1 : (List (List Int))) : Option (Bool) :=
  (ob (impll18_0 K K x1 ((0 : Int))) fun y1 => (match y1 with | .inl y2 => some (false) | .inr y2 => some (y2)))
theorem q18 (K : Nat) (x1 : (List (List Int))) : evFnK (α := Bool) (L18_1 K) 3 18 Try.f18.results.toList (codeOf Try.f18) ins18 res18 (fun p => p.1) (x1, ()) = implf18 K x1 := by kernel_rfl
noncomputable def e18 (K : Nat) : Ent := ⟨ins18, res18, Bool, fun x => implf18 K x.1, fun _ => (fun y => (y, (()))), false⟩
theorem e18_ok (K : Nat) : EntOk Try.prog 18 (e18 K) := entOk_k (ins := ins18) (rs := res18) (α := Bool) (lib18_1 K) (d := 3) Try.func18 rfl (by kernel_rfl) (by kernel_rfl) (by kernel_rfl) (fun x => implf18 K x.1) (fun p => p.1) (fun y => (y, (()))) (fun _ => rfl) (fun x => q18 K x.1)

/-! diaphone/echo.Validate -/
abbrev ins32 : Fs := [(.dat (.sl (.int .i64)), false)]
abbrev res32 : Sh := .dat (.int .i64)
theorem lp32 : loopsIn (codeOf Try.f32) 0 = [(0, loopOf 0 (codeOf Try.f32))] := by kernel_rfl
noncomputable def L32_0 (K : Nat) : Lib := mkLib ti [(61, [e61 K])] [] 32 []
theorem lib32_0 (K : Nat) : LibOk Try.prog (L32_0 K) := libOk_mk (ents := [(61, [e61 K])]) (bodies := []) (loops := []) order tiOk ⟨one_ent (e61_ok K), trivial⟩ trivial Try.func32 rfl lp32 ⟨no_lent, trivial⟩
abbrev i32_0 : Fs := [(.dat (.sl (.int Go.IntKind.i64)), false), (.dat (.sl (.int Go.IntKind.i64)), false), (.dat (.int Go.IntKind.i64), false), (.dat (.int Go.IntKind.i64), true)]
noncomputable def implb32_0 (K : Nat) (rc : (List Int) → (List Int) → Int → Int → Option (Sum (Int × Unit) Int)) (x1 : (List Int)) (x2 : (List Int)) (x3 : Int) (x4 : Int) : Option (Sum (Int × Unit) Int) :=
  (bif decide (x4 < x3) then (if (0 : Int) ≤ x4 ∧ x4 < (↑x2.length : Int) then (ob (implf61 K (x2.getD x4.toNat ((0 : Int))) (-60 : Int) ((60 : Int))) fun y1 => (bif !y1 then some (Sum.inr ((1 : Int))) else (bif decide (x4 > (0 : Int)) then (if (0 : Int) ≤ IntKind.i64.wrap (x4 - (1 : Int)) ∧ IntKind.i64.wrap (x4 - (1 : Int)) < (↑x1.length : Int) then (bif decide (x2.getD x4.toNat ((0 : Int)) ≤ x1.getD (IntKind.i64.wrap (x4 - (1 : Int))).toNat ((0 : Int))) then some (Sum.inr ((1 : Int))) else (rc x1 x2 x3 (IntKind.i64.wrap (x4 + (1 : Int))))) else none) else (rc x1 x2 x3 (IntKind.i64.wrap (x4 + (1 : Int))))))) else none) else some (Sum.inl (x4, ())))
noncomputable def impll32_0 (K : Nat) : Nat → (List Int) → (List Int) → Int → Int → Option (Sum (Int × Unit) Int)
  | 0, _, _, _, _ => none
  | k + 1, x1, x2, x3, x4 => implb32_0 K (impll32_0 K k) x1 x2 x3 x4
noncomputable def n32_0 (K : Nat) : Lent := ⟨[0, 9, 10, 11], i32_0, [12, 13, 14, 15, 3, 4, 16, 17, 18, 19, 20, 21, 22, 23, 24, 25, 26, 27, 28, 29, 30, 31, 2, 32], [0], true, res32, fun x => impll32_0 K K x.1 x.2.1 x.2.2.1 x.2.2.2.1, [], none⟩
theorem q32_0 (K : Nat) (rc : (List Int) → (List Int) → Int → Int → Option (Sum (Int × Unit) Int)) (x1 : (List Int)) (x2 : (List Int)) (x3 : Int) (x4 : Int) : evLoop (L32_0 K) 3 32 Try.f32.results.toList (loopOf 0 (codeOf Try.f32)) 0 [0, 9, 10, 11] [] i32_0 [0] true res32 (fun x => rc x.1 x.2.1 x.2.2.1 x.2.2.2.1) (x1, x2, x3, x4, ()) = implb32_0 K rc x1 x2 x3 x4 := by kernel_rfl
theorem lp32_0 : loopsIn (loopOf 0 (codeOf Try.f32)) 0 = [] := by kernel_rfl
theorem n32_0_ok (K : Nat) : LentOk Try.prog Try.f32 (loopOf 0 (codeOf Try.f32)) (n32_0 K) := lentOk_k (slots := [0, 9, 10, 11]) (ali := []) (ins := i32_0) (writes := [12, 13, 14, 15, 3, 4, 16, 17, 18, 19, 20, 21, 22, 23, 24, 25, 26, 27, 28, 29, 30, 31, 2, 32]) (exits := [0]) (rets := true) (rs := res32) (d := 3) (lib32_0 K) lp32_0 trivial (by kernel_rfl) (by kernel_rfl) (by kernel_rfl) (by kernel_rfl) (by kernel_rfl) (fun k x => impll32_0 K k x.1 x.2.1 x.2.2.1 x.2.2.2.1) (fun _ => rfl) (fun k x => q32_0 K (impll32_0 K k) x.1 x.2.1 x.2.2.1 x.2.2.2.1) K
noncomputable def L32_1 (K : Nat) : Lib := mkLib ti [(61, [e61 K])] [] 32 [(0, [n32_0 K])]
theorem lib32_1 (K : Nat) : LibOk Try.prog (L32_1 K) := libOk_mk (ents := [(61, [e61 K])]) (bodies := []) (loops := [(0, [n32_0 K])]) order tiOk ⟨one_ent (e61_ok K), trivial⟩ trivial Try.func32 rfl lp32 ⟨one_lent (n32_0_ok K), trivial⟩
noncomputable def implf32 (K : Nat) (x1 : (List Int)) : Option (Int) :=
  (ob (implf61 K ((↑x1.length : Int)) ((1 : Int)) ((6 : Int))) fun y1 => (bif !y1 then some ((3 : Int)) else (ob (impll32_0 K K x1 x1 ((↑x1.length : Int)) ((0 : Int))) fun y2 => (match y2 with | .inl y3 => (if (0 : Int) ≤ IntKind.i64.wrap ((↑x1.length : Int) - (1 : Int)) ∧ IntKind.i64.wrap ((↑x1.length : Int) - (1 : Int)) < (↑x1.length : Int) then (if (0 : Int) ≤ (0 : Int) ∧ (0 : Int) < (↑x1.length : Int) then (bif decide (IntKind.i64.wrap (x1.getD (IntKind.i64.wrap ((↑x1.length : Int) - (1 : Int))).toNat ((0 : Int)) - x1.getD (0) ((0 : Int))) > (60 : Int)) then some ((1 : Int)) else some ((0 : Int))) else none) else none) | .inr y3 => some (y3)))))
theorem q32 (K : Nat) (x1 : (List Int)) : evFnK (α := Int) (L32_1 K) 3 32 Try.f32.results.toList (codeOf Try.f32) ins32 res32 (fun p => p.1) (x1, ()) = implf32 K x1 := by kernel_rfl
noncomputable def e32 (K : Nat) : Ent := ⟨ins32, res32, Int, fun x => implf32 K x.1, fun _ => (fun y => (y, (()))), false⟩
theorem e32_ok (K : Nat) : EntOk Try.prog 32 (e32 K) := entOk_k (ins := ins32) (rs := res32) (α := Int) (lib32_1 K) (d := 3) Try.func32 rfl (by kernel_rfl) (by kernel_rfl) (by kernel_rfl) (fun x => implf32 K x.1) (fun p => p.1) (fun y => (y, (()))) (fun _ => rfl) (fun x => q32 K x.1)

/-! diaphone/echo.both -/
abbrev ins68 : Fs := [(.dat (.sl (.int .i64)), false), (.dat (.sl (.int .i64)), false)]
abbrev res68 : Sh := .dat (.int .i64)
theorem lp68 : loopsIn (codeOf Try.f68) 0 = [] := by kernel_rfl
noncomputable def L68_0 (K : Nat) : Lib := mkLib ti [(32, [e32 K])] [] 68 []
theorem lib68_0 (K : Nat) : LibOk Try.prog (L68_0 K) := libOk_mk (ents := [(32, [e32 K])]) (bodies := []) (loops := []) order tiOk ⟨one_ent (e32_ok K), trivial⟩ trivial Try.func68 rfl lp68 trivial
noncomputable def implf68 (K : Nat) (x1 : (List Int)) (x2 : (List Int)) : Option (Int) :=
  (ob (implf32 K x1) fun y1 => (bif y1 != (0 : Int) then some (y1) else (ob (implf32 K x2) fun y2 => some (y2))))
theorem q68 (K : Nat) (x1 : (List Int)) (x2 : (List Int)) : evFnK (α := Int) (L68_0 K) 3 68 Try.f68.results.toList (codeOf Try.f68) ins68 res68 (fun p => p.1) (x1, x2, ()) = implf68 K x1 x2 := by kernel_rfl
noncomputable def e68 (K : Nat) : Ent := ⟨ins68, res68, Int, fun x => implf68 K x.1 x.2.1, fun _ => (fun y => (y, (()))), false⟩
theorem e68_ok (K : Nat) : EntOk Try.prog 68 (e68 K) := entOk_k (ins := ins68) (rs := res68) (α := Int) (lib68_0 K) (d := 3) Try.func68 rfl (by kernel_rfl) (by kernel_rfl) (by kernel_rfl) (fun x => implf68 K x.1 x.2.1) (fun p => p.1) (fun y => (y, (()))) (fun _ => rfl) (fun x => q68 K x.1 x.2.1)

/-! slices.Sort[[]int,int] -/
abbrev ins81 : Fs := [(.own (.int .i64), true)]
abbrev res81 : Sh := .nix
noncomputable def implf81 (K : Nat) (x1 : List Int) : Option (List Int) := if x1.length ≤ 1000 then some (isort leI x1) else none
noncomputable def e81 (K : Nat) : Ent := ⟨ins81, res81, List Int, fun x => implf81 K x.1, fun _ => (fun y => ((), (y, ()))), false⟩
theorem e81_ok (K : Nat) : EntOk Try.prog 81 (e81 K) := sort_ent

/-! diaphone/echo.checked -/
abbrev ins85 : Fs := [(.dat (.sl (.int .i64)), false)]
abbrev res85 : Sh := .cons (.dat (.sl (.int .i64))) (.cons (.dat (.int .i64)) (.un))
theorem lp85 : loopsIn (codeOf Try.f85) 0 = [] := by kernel_rfl
noncomputable def L85_0 (K : Nat) : Lib := mkLib ti [(32, [e32 K])] [] 85 []
theorem lib85_0 (K : Nat) : LibOk Try.prog (L85_0 K) := libOk_mk (ents := [(32, [e32 K])]) (bodies := []) (loops := []) order tiOk ⟨one_ent (e32_ok K), trivial⟩ trivial Try.func85 rfl lp85 trivial
noncomputable def implf85 (K : Nat) (x1 : (List Int)) : Option ((List Int) × Int) :=
  (ob (implf32 K x1) fun y1 => (bif y1 != (0 : Int) then some (([], y1)) else some ((x1, (0 : Int)))))
theorem q85 (K : Nat) (x1 : (List Int)) : evFnK (α := (List Int) × Int) (L85_0 K) 3 85 Try.f85.results.toList (codeOf Try.f85) ins85 res85 (fun p => (p.1.1, p.1.2.1)) (x1, ()) = implf85 K x1 := by kernel_rfl
noncomputable def e85 (K : Nat) : Ent := ⟨ins85, res85, (List Int) × Int, fun x => implf85 K x.1, fun _ => (fun y => ((y.1, y.2, ()), (()))), false⟩
theorem e85_ok (K : Nat) : EntOk Try.prog 85 (e85 K) := entOk_k (ins := ins85) (rs := res85) (α := (List Int) × Int) (lib85_0 K) (d := 3) Try.func85 rfl (by kernel_rfl) (by kernel_rfl) (by kernel_rfl) (fun x => implf85 K x.1) (fun p => (p.1.1, p.1.2.1)) (fun y => ((y.1, y.2, ()), (()))) (fun _ => rfl) (fun x => q85 K x.1)

/-! slices.Compact[[]int,int] -/
abbrev ins89 : Fs := [(.own (.int .i64), false)]
abbrev res89 : Sh := .own (.int .i64)
noncomputable def implf89 (K : Nat) (x1 : List Int) : Option (List Int) := if x1.length ≤ 1000 then some (compactI x1) else none
noncomputable def e89 (K : Nat) : Ent := ⟨ins89, res89, List Int, fun x => implf89 K x.1, fun _ => (fun y => (y, ())), true⟩
theorem e89_ok (K : Nat) : EntOk Try.prog 89 (e89 K) := compact_ent89

/-! diaphone/echo.combined -/
abbrev ins58 : Fs := [(.dat (.sl (.int .i64)), false), (.dat (.sl (.int .i64)), false), (.dat (.int .i64), false)]
abbrev res58 : Sh := .cons (.dat (.sl (.int .i64))) (.cons (.dat (.int .i64)) (.un))
theorem lp58 : loopsIn (codeOf Try.f58) 0 = [(0, loopOf 0 (codeOf Try.f58)), (2, loopOf 2 (codeOf Try.f58))] := by kernel_rfl
noncomputable def L58_0 (K : Nat) : Lib := mkLib ti [(68, [e68 K]), (81, [e81 K]), (83, [e83 K]), (85, [e85 K]), (89, [e89 K])] [] 58 []
theorem lib58_0 (K : Nat) : LibOk Try.prog (L58_0 K) := libOk_mk (ents := [(68, [e68 K]), (81, [e81 K]), (83, [e83 K]), (85, [e85 K]), (89, [e89 K])]) (bodies := []) (loops := []) order tiOk ⟨one_ent (e68_ok K), one_ent (e81_ok K), one_ent (e83_ok K), one_ent (e85_ok K), one_ent (e89_ok K), trivial⟩ trivial Try.func58 rfl lp58 ⟨no_lent, no_lent, trivial⟩
abbrev i58_0 : Fs := [(.dat (.sl (.int Go.IntKind.i64)), false), (.dat (.int Go.IntKind.i64), false), (.own (.int .i64), true), (.dat (.sl (.int Go.IntKind.i64)), false), (.dat (.int Go.IntKind.i64), false), (.dat (.int Go.IntKind.i64), true)]
abbrev i58_2 : Fs := [(.dat (.sl (.int Go.IntKind.i64)), false), (.dat (.int Go.IntKind.i64), false), (.own (.int Go.IntKind.i64), true), (.dat (.int Go.IntKind.i64), false), (.dat (.sl (.int Go.IntKind.i64)), false), (.dat (.int Go.IntKind.i64), false), (.dat (.int Go.IntKind.i64), false), (.dat (.sl (.int Go.IntKind.i64)), false), (.dat (.int Go.IntKind.i64), false), (.dat (.int Go.IntKind.i64), true)]
noncomputable def implb58_2 (K : Nat) (rc : (List Int) → Int → (List Int) → Int → (List Int) → Int → Int → (List Int) → Int → Int → Option ((List Int) × Int × Unit)) (x1 : (List Int)) (x2 : Int) (x3 : (List Int)) (x4 : Int) (x5 : (List Int)) (x6 : Int) (x7 : Int) (x8 : (List Int)) (x9 : Int) (x10 : Int) : Option ((List Int) × Int × Unit) :=
  (bif decide (x10 < x9) then (if (0 : Int) ≤ x10 ∧ x10 < (↑x8.length : Int) then (if (x3.length + ((List.replicate 1 ((0 : Int))).set 0 (IntKind.i64.wrap (x4 + IntKind.i64.wrap (x2 * x8.getD x10.toNat ((0 : Int)))))).length) * 8 ≤ 140737488355328 then (rc x1 x2 (x3 ++ (List.replicate 1 ((0 : Int))).set 0 (IntKind.i64.wrap (x4 + IntKind.i64.wrap (x2 * x8.getD x10.toNat ((0 : Int)))))) x4 x5 x6 x7 x8 x9 (IntKind.i64.wrap (x10 + (1 : Int)))) else none) else none) else some ((x3, x10, ())))
noncomputable def impll58_2 (K : Nat) : Nat → (List Int) → Int → (List Int) → Int → (List Int) → Int → Int → (List Int) → Int → Int → Option ((List Int) × Int × Unit)
  | 0, _, _, _, _, _, _, _, _, _, _ => none
  | k + 1, x1, x2, x3, x4, x5, x6, x7, x8, x9, x10 => implb58_2 K (impll58_2 K k) x1 x2 x3 x4 x5 x6 x7 x8 x9 x10
noncomputable def n58_2 (K : Nat) : Lent := ⟨[1, 2, 9, 11, 20, 21, 22, 26, 27, 28], i58_2, [29, 30, 31, 13, 32, 33, 34, 35, 36, 37, 38, 39, 40], [2], false, res58, fun x => impll58_2 K K x.1 x.2.1 x.2.2.1 x.2.2.2.1 x.2.2.2.2.1 x.2.2.2.2.2.1 x.2.2.2.2.2.2.1 x.2.2.2.2.2.2.2.1 x.2.2.2.2.2.2.2.2.1 x.2.2.2.2.2.2.2.2.2.1, [], none⟩
theorem q58_2 (K : Nat) (rc : (List Int) → Int → (List Int) → Int → (List Int) → Int → Int → (List Int) → Int → Int → Option ((List Int) × Int × Unit)) (x1 : (List Int)) (x2 : Int) (x3 : (List Int)) (x4 : Int) (x5 : (List Int)) (x6 : Int) (x7 : Int) (x8 : (List Int)) (x9 : Int) (x10 : Int) : evLoop (L58_0 K) 3 58 Try.f58.results.toList (loopOf 2 (codeOf Try.f58)) 2 [1, 2, 9, 11, 20, 21, 22, 26, 27, 28] [] i58_2 [2] false res58 (fun x => rc x.1 x.2.1 x.2.2.1 x.2.2.2.1 x.2.2.2.2.1 x.2.2.2.2.2.1 x.2.2.2.2.2.2.1 x.2.2.2.2.2.2.2.1 x.2.2.2.2.2.2.2.2.1 x.2.2.2.2.2.2.2.2.2.1) (x1, x2, x3, x4, x5, x6, x7, x8, x9, x10, ()) = implb58_2 K rc x1 x2 x3 x4 x5 x6 x7 x8 x9 x10 := by kernel_rfl
theorem lp58_2 : loopsIn (loopOf 2 (codeOf Try.f58)) 2 = [] := by kernel_rfl
theorem n58_2_ok (K : Nat) : LentOk Try.prog Try.f58 (loopOf 2 (codeOf Try.f58)) (n58_2 K) := lentOk_k (slots := [1, 2, 9, 11, 20, 21, 22, 26, 27, 28]) (ali := []) (ins := i58_2) (writes := [29, 30, 31, 13, 32, 33, 34, 35, 36, 37, 38, 39, 40]) (exits := [2]) (rets := false) (rs := res58) (d := 3) (lib58_0 K) lp58_2 trivial (by kernel_rfl) (by kernel_rfl) (by kernel_rfl) (by kernel_rfl) (by kernel_rfl) (fun k x => impll58_2 K k x.1 x.2.1 x.2.2.1 x.2.2.2.1 x.2.2.2.2.1 x.2.2.2.2.2.1 x.2.2.2.2.2.2.1 x.2.2.2.2.2.2.2.1 x.2.2.2.2.2.2.2.2.1 x.2.2.2.2.2.2.2.2.2.1) (fun _ => rfl) (fun k x => q58_2 K (impll58_2 K k) x.1 x.2.1 x.2.2.1 x.2.2.2.1 x.2.2.2.2.1 x.2.2.2.2.2.1 x.2.2.2.2.2.2.1 x.2.2.2.2.2.2.2.1 x.2.2.2.2.2.2.2.2.1 x.2.2.2.2.2.2.2.2.2.1) K
noncomputable def L58_1 (K : Nat) : Lib := mkLib ti [(68, [e68 K]), (81, [e81 K]), (83, [e83 K]), (85, [e85 K]), (89, [e89 K])] [] 58 [(2, [n58_2 K])]
theorem lib58_1 (K : Nat) : LibOk Try.prog (L58_1 K) := libOk_mk (ents := [(68, [e68 K]), (81, [e81 K]), (83, [e83 K]), (85, [e85 K]), (89, [e89 K])]) (bodies := []) (loops := [(2, [n58_2 K])]) order tiOk ⟨one_ent (e68_ok K), one_ent (e81_ok K), one_ent (e83_ok K), one_ent (e85_ok K), one_ent (e89_ok K), trivial⟩ trivial Try.func58 rfl lp58 ⟨no_lent, one_lent (n58_2_ok K), trivial⟩
noncomputable def implb58_0 (K : Nat) (rc : (List Int) → Int → (List Int) → (List Int) → Int → Int → Option ((List Int) × Int × Unit)) (x1 : (List Int)) (x2 : Int) (x3 : (List Int)) (x4 : (List Int)) (x5 : Int) (x6 : Int) : Option ((List Int) × Int × Unit) :=
  (bif decide (x6 < x5) then (if (0 : Int) ≤ x6 ∧ x6 < (↑x4.length : Int) then (ob (impll58_2 K K x1 x2 x3 (x4.getD x6.toNat ((0 : Int))) x4 x5 x6 x1 ((↑x1.length : Int)) ((0 : Int))) fun y1 => (rc x1 x2 y1.1 x4 x5 (IntKind.i64.wrap (x6 + (1 : Int))))) else none) else some ((x3, x6, ())))
noncomputable def impll58_0 (K : Nat) : Nat → (List Int) → Int → (List Int) → (List Int) → Int → Int → Option ((List Int) × Int × Unit)
  | 0, _, _, _, _, _, _ => none
  | k + 1, x1, x2, x3, x4, x5, x6 => implb58_0 K (impll58_0 K k) x1 x2 x3 x4 x5 x6
noncomputable def n58_0 (K : Nat) : Lent := ⟨[1, 2, 9, 20, 21, 22], i58_0, [23, 24, 25, 11, 26, 27, 28, 29, 30, 31, 13, 32, 33, 34, 35, 36, 37, 38, 39, 40, 41], [0], false, res58, fun x => impll58_0 K K x.1 x.2.1 x.2.2.1 x.2.2.2.1 x.2.2.2.2.1 x.2.2.2.2.2.1, [], none⟩
theorem q58_0 (K : Nat) (rc : (List Int) → Int → (List Int) → (List Int) → Int → Int → Option ((List Int) × Int × Unit)) (x1 : (List Int)) (x2 : Int) (x3 : (List Int)) (x4 : (List Int)) (x5 : Int) (x6 : Int) : evLoop (L58_1 K) 3 58 Try.f58.results.toList (loopOf 0 (codeOf Try.f58)) 0 [1, 2, 9, 20, 21, 22] [] i58_0 [0] false res58 (fun x => rc x.1 x.2.1 x.2.2.1 x.2.2.2.1 x.2.2.2.2.1 x.2.2.2.2.2.1) (x1, x2, x3, x4, x5, x6, ()) = implb58_0 K rc x1 x2 x3 x4 x5 x6 := by kernel_rfl
theorem lp58_0 : loopsIn (loopOf 0 (codeOf Try.f58)) 0 = [(2, loopOf 2 (codeOf Try.f58))] := by kernel_rfl
theorem n58_0_ok (K : Nat) : LentOk Try.prog Try.f58 (loopOf 0 (codeOf Try.f58)) (n58_0 K) := lentOk_k (slots := [1, 2, 9, 20, 21, 22]) (ali := []) (ins := i58_0) (writes := [23, 24, 25, 11, 26, 27, 28, 29, 30, 31, 13, 32, 33, 34, 35, 36, 37, 38, 39, 40, 41]) (exits := [0]) (rets := false) (rs := res58) (d := 3) (lib58_1 K) lp58_0 ⟨one_lent (n58_2_ok K), trivial⟩ (by kernel_rfl) (by kernel_rfl) (by kernel_rfl) (by kernel_rfl) (by kernel_rfl) (fun k x => impll58_0 K k x.1 x.2.1 x.2.2.1 x.2.2.2.1 x.2.2.2.2.1 x.2.2.2.2.2.1) (fun _ => rfl) (fun k x => q58_0 K (impll58_0 K k) x.1 x.2.1 x.2.2.1 x.2.2.2.1 x.2.2.2.2.1 x.2.2.2.2.2.1) K
noncomputable def L58_2 (K : Nat) : Lib := mkLib ti [(68, [e68 K]), (81, [e81 K]), (83, [e83 K]), (85, [e85 K]), (89, [e89 K])] [] 58 [(2, [n58_2 K]), (0, [n58_0 K])]
theorem lib58_2 (K : Nat) : LibOk Try.prog (L58_2 K) := libOk_mk (ents := [(68, [e68 K]), (81, [e81 K]), (83, [e83 K]), (85, [e85 K]), (89, [e89 K])]) (bodies := []) (loops := [(2, [n58_2 K]), (0, [n58_0 K])]) order tiOk ⟨one_ent (e68_ok K), one_ent (e81_ok K), one_ent (e83_ok K), one_ent (e85_ok K), one_ent (e89_ok K), trivial⟩ trivial Try.func58 rfl lp58 ⟨one_lent (n58_0_ok K), one_lent (n58_2_ok K), trivial⟩
noncomputable def implf58 (K : Nat) (x1 : (List Int)) (x2 : (List Int)) (x3 : Int) : Option ((List Int) × Int) :=
  (ob (implf68 K x1 x2) fun y1 => (bif y1 != (0 : Int) then some (([], y1)) else (ob (impll58_0 K K x2 x3 [] x1 ((↑x1.length : Int)) ((0 : Int))) fun y2 => (ob (implf81 K y2.1) fun y3 => (ob (implf83 K y3) fun y4 => (ob (implf89 K y4) fun y5 => (bif decide ((↑y5.length : Int) < (↑y3.length : Int)) then some (([], (5 : Int))) else (ob (implf85 K y3) fun y6 => some ((y6.1, y6.2))))))))))
theorem q58 (K : Nat) (x1 : (List Int)) (x2 : (List Int)) (x3 : Int) : evFnK (α := (List Int) × Int) (L58_2 K) 3 58 Try.f58.results.toList (codeOf Try.f58) ins58 res58 (fun p => (p.1.1, p.1.2.1)) (x1, x2, x3, ()) = implf58 K x1 x2 x3 := by kernel_rfl
noncomputable def e58 (K : Nat) : Ent := ⟨ins58, res58, (List Int) × Int, fun x => implf58 K x.1 x.2.1 x.2.2.1, fun _ => (fun y => ((y.1, y.2, ()), (()))), false⟩
theorem e58_ok (K : Nat) : EntOk Try.prog 58 (e58 K) := entOk_k (ins := ins58) (rs := res58) (α := (List Int) × Int) (lib58_2 K) (d := 3) Try.func58 rfl (by kernel_rfl) (by kernel_rfl) (by kernel_rfl) (fun x => implf58 K x.1 x.2.1 x.2.2.1) (fun p => (p.1.1, p.1.2.1)) (fun y => ((y.1, y.2, ()), (()))) (fun _ => rfl) (fun x => q58 K x.1 x.2.1 x.2.2.1)

/-! diaphone/diaphoneref05.SameInts -/
abbrev ins24 : Fs := [(.dat (.sl (.int .i64)), false), (.dat (.sl (.int .i64)), false)]
abbrev res24 : Sh := .dat (.bool)
theorem lp24 : loopsIn (codeOf Try.f24) 0 = [(0, loopOf 0 (codeOf Try.f24))] := by kernel_rfl
noncomputable def L24_0 (K : Nat) : Lib := mkLib ti [] [] 24 []
theorem lib24_0 (K : Nat) : LibOk Try.prog (L24_0 K) := libOk_mk (ents := []) (bodies := []) (loops := []) order tiOk trivial trivial Try.func24 rfl lp24 ⟨no_lent, trivial⟩
abbrev i24_0 : Fs := [(.dat (.sl (.int Go.IntKind.i64)), false), (.dat (.sl (.int Go.IntKind.i64)), false), (.dat (.int Go.IntKind.i64), true)]
noncomputable def implb24_0 (K : Nat) (rc : (List Int) → (List Int) → Int → Option (Sum (Int × Unit) Bool)) (x1 : (List Int)) (x2 : (List Int)) (x3 : Int) : Option (Sum (Int × Unit) Bool) :=
  (bif decide (x3 < (↑x1.length : Int)) then (if (0 : Int) ≤ x3 ∧ x3 < (↑x1.length : Int) then (if (0 : Int) ≤ x3 ∧ x3 < (↑x2.length : Int) then (bif x1.getD x3.toNat ((0 : Int)) != x2.getD x3.toNat ((0 : Int)) then some (Sum.inr false) else (rc x1 x2 (IntKind.i64.wrap (x3 + (1 : Int))))) else none) else none) else some (Sum.inl (x3, ())))
noncomputable def impll24_0 (K : Nat) : Nat → (List Int) → (List Int) → Int → Option (Sum (Int × Unit) Bool)
  | 0, _, _, _ => none
  | k + 1, x1, x2, x3 => implb24_0 K (impll24_0 K k) x1 x2 x3
noncomputable def n24_0 (K : Nat) : Lent := ⟨[0, 1, 5], i24_0, [11, 12, 13, 14, 17, 18, 19, 20, 21, 22, 23, 24, 25, 4, 15, 16], [0], true, res24, fun x => impll24_0 K K x.1 x.2.1 x.2.2.1, [], none⟩
theorem q24_0 (K : Nat) (rc : (List Int) → (List Int) → Int → Option (Sum (Int × Unit) Bool)) (x1 : (List Int)) (x2 : (List Int)) (x3 : Int) : evLoop (L24_0 K) 3 24 Try.f24.results.toList (loopOf 0 (codeOf Try.f24)) 0 [0, 1, 5] [] i24_0 [0] true res24 (fun x => rc x.1 x.2.1 x.2.2.1) (x1, x2, x3, ()) = implb24_0 K rc x1 x2 x3 := by kernel_rfl
theorem lp24_0 : loopsIn (loopOf 0 (codeOf Try.f24)) 0 = [] := by kernel_rfl
theorem n24_0_ok (K : Nat) : LentOk Try.prog Try.f24 (loopOf 0 (codeOf Try.f24)) (n24_0 K) := lentOk_k (slots := [0, 1, 5]) (ali := []) (ins := i24_0) (writes := [11, 12, 13, 14, 17, 18, 19, 20, 21, 22, 23, 24, 25, 4, 15, 16]) (exits := [0]) (rets := true) (rs := res24) (d := 3) (lib24_0 K) lp24_0 trivial (by kernel_rfl) (by kernel_rfl) (by kernel_rfl) (by kernel_rfl) (by kernel_rfl) (fun k x => impll24_0 K k x.1 x.2.1 x.2.2.1) (fun _ => rfl) (fun k x => q24_0 K (impll24_0 K k) x.1 x.2.1 x.2.2.1) K
noncomputable def L24_1 (K : Nat) : Lib := mkLib ti [] [] 24 [(0, [n24_0 K])]
theorem lib24_1 (K : Nat) : LibOk Try.prog (L24_1 K) := libOk_mk (ents := []) (bodies := []) (loops := [(0, [n24_0 K])]) order tiOk trivial trivial Try.func24 rfl lp24 ⟨one_lent (n24_0_ok K), trivial⟩
noncomputable def implf24 (K : Nat) (x1 : (List Int)) (x2 : (List Int)) : Option (Bool) :=
  (bif (↑x1.length : Int) != (↑x2.length : Int) then some (false) else (ob (impll24_0 K K x1 x2 ((0 : Int))) fun y1 => (match y1 with | .inl y2 => some (true) | .inr y2 => some (y2))))
theorem q24 (K : Nat) (x1 : (List Int)) (x2 : (List Int)) : evFnK (α := Bool) (L24_1 K) 3 24 Try.f24.results.toList (codeOf Try.f24) ins24 res24 (fun p => p.1) (x1, x2, ()) = implf24 K x1 x2 := by kernel_rfl
noncomputable def e24 (K : Nat) : Ent := ⟨ins24, res24, Bool, fun x => implf24 K x.1 x.2.1, fun _ => (fun y => (y, (()))), false⟩
theorem e24_ok (K : Nat) : EntOk Try.prog 24 (e24 K) := entOk_k (ins := ins24) (rs := res24) (α := Bool) (lib24_1 K) (d := 3) Try.func24 rfl (by kernel_rfl) (by kernel_rfl) (by kernel_rfl) (fun x => implf24 K x.1 x.2.1) (fun p => p.1) (fun y => (y, (()))) (fun _ => rfl) (fun x => q24 K x.1 x.2.1)

/-! diaphone/echo.delays -/
abbrev ins70 : Fs := [(.dat (.sl (.int .i64)), false)]
abbrev res70 : Sh := .own (.int .i64)
theorem lp70 : loopsIn (codeOf Try.f70) 0 = [(0, loopOf 0 (codeOf Try.f70)), (2, loopOf 2 (codeOf Try.f70))] := by kernel_rfl
noncomputable def L70_0 (K : Nat) : Lib := mkLib ti [(81, [e81 K])] [] 70 []
theorem lib70_0 (K : Nat) : LibOk Try.prog (L70_0 K) := libOk_mk (ents := [(81, [e81 K])]) (bodies := []) (loops := []) order tiOk ⟨one_ent (e81_ok K), trivial⟩ trivial Try.func70 rfl lp70 ⟨no_lent, no_lent, trivial⟩
abbrev i70_0 : Fs := [(.dat (.sl (.int Go.IntKind.i64)), false), (.own (.int .i64), true), (.dat (.sl (.int Go.IntKind.i64)), false), (.dat (.int Go.IntKind.i64), false), (.dat (.int Go.IntKind.i64), true)]
abbrev i70_2 : Fs := [(.dat (.sl (.int Go.IntKind.i64)), false), (.own (.int Go.IntKind.i64), true), (.dat (.int Go.IntKind.i64), false), (.dat (.sl (.int Go.IntKind.i64)), false), (.dat (.int Go.IntKind.i64), false), (.dat (.int Go.IntKind.i64), false), (.dat (.sl (.int Go.IntKind.i64)), false), (.dat (.int Go.IntKind.i64), false), (.dat (.int Go.IntKind.i64), true)]
noncomputable def implb70_2 (K : Nat) (rc : (List Int) → (List Int) → Int → (List Int) → Int → Int → (List Int) → Int → Int → Option ((List Int) × Int × Unit)) (x1 : (List Int)) (x2 : (List Int)) (x3 : Int) (x4 : (List Int)) (x5 : Int) (x6 : Int) (x7 : (List Int)) (x8 : Int) (x9 : Int) : Option ((List Int) × Int × Unit) :=
  (bif decide (x9 < x8) then (if (0 : Int) ≤ x9 ∧ x9 < (↑x7.length : Int) then (if (x2.length + ((List.replicate 1 ((0 : Int))).set 0 (IntKind.i64.wrap (x3 - x7.getD x9.toNat ((0 : Int))))).length) * 8 ≤ 140737488355328 then (rc x1 (x2 ++ (List.replicate 1 ((0 : Int))).set 0 (IntKind.i64.wrap (x3 - x7.getD x9.toNat ((0 : Int))))) x3 x4 x5 x6 x7 x8 (IntKind.i64.wrap (x9 + (1 : Int)))) else none) else none) else some ((x2, x9, ())))
noncomputable def impll70_2 (K : Nat) : Nat → (List Int) → (List Int) → Int → (List Int) → Int → Int → (List Int) → Int → Int → Option ((List Int) × Int × Unit)
  | 0, _, _, _, _, _, _, _, _, _ => none
  | k + 1, x1, x2, x3, x4, x5, x6, x7, x8, x9 => implb70_2 K (impll70_2 K k) x1 x2 x3 x4 x5 x6 x7 x8 x9
noncomputable def n70_2 (K : Nat) : Lent := ⟨[0, 3, 5, 8, 9, 10, 17, 18, 19], i70_2, [20, 21, 22, 7, 23, 24, 25, 26, 27, 28, 29], [2], false, res70, fun x => impll70_2 K K x.1 x.2.1 x.2.2.1 x.2.2.2.1 x.2.2.2.2.1 x.2.2.2.2.2.1 x.2.2.2.2.2.2.1 x.2.2.2.2.2.2.2.1 x.2.2.2.2.2.2.2.2.1, [], none⟩
theorem q70_2 (K : Nat) (rc : (List Int) → (List Int) → Int → (List Int) → Int → Int → (List Int) → Int → Int → Option ((List Int) × Int × Unit)) (x1 : (List Int)) (x2 : (List Int)) (x3 : Int) (x4 : (List Int)) (x5 : Int) (x6 : Int) (x7 : (List Int)) (x8 : Int) (x9 : Int) : evLoop (L70_0 K) 3 70 Try.f70.results.toList (loopOf 2 (codeOf Try.f70)) 2 [0, 3, 5, 8, 9, 10, 17, 18, 19] [] i70_2 [2] false res70 (fun x => rc x.1 x.2.1 x.2.2.1 x.2.2.2.1 x.2.2.2.2.1 x.2.2.2.2.2.1 x.2.2.2.2.2.2.1 x.2.2.2.2.2.2.2.1 x.2.2.2.2.2.2.2.2.1) (x1, x2, x3, x4, x5, x6, x7, x8, x9, ()) = implb70_2 K rc x1 x2 x3 x4 x5 x6 x7 x8 x9 := by kernel_rfl
theorem lp70_2 : loopsIn (loopOf 2 (codeOf Try.f70)) 2 = [] := by kernel_rfl
theorem n70_2_ok (K : Nat) : LentOk Try.prog Try.f70 (loopOf 2 (codeOf Try.f70)) (n70_2 K) := lentOk_k (slots := [0, 3, 5, 8, 9, 10, 17, 18, 19]) (ali := []) (ins := i70_2) (writes := [20, 21, 22, 7, 23, 24, 25, 26, 27, 28, 29]) (exits := [2]) (rets := false) (rs := res70) (d := 3) (lib70_0 K) lp70_2 trivial (by kernel_rfl) (by kernel_rfl) (by kernel_rfl) (by kernel_rfl) (by kernel_rfl) (fun k x => impll70_2 K k x.1 x.2.1 x.2.2.1 x.2.2.2.1 x.2.2.2.2.1 x.2.2.2.2.2.1 x.2.2.2.2.2.2.1 x.2.2.2.2.2.2.2.1 x.2.2.2.2.2.2.2.2.1) (fun _ => rfl) (fun k x => q70_2 K (impll70_2 K k) x.1 x.2.1 x.2.2.1 x.2.2.2.1 x.2.2.2.2.1 x.2.2.2.2.2.1 x.2.2.2.2.2.2.1 x.2.2.2.2.2.2.2.1 x.2.2.2.2.2.2.2.2.1) K
noncomputable def L70_1 (K : Nat) : Lib := mkLib ti [(81, [e81 K])] [] 70 [(2, [n70_2 K])]
theorem lib70_1 (K : Nat) : LibOk Try.prog (L70_1 K) := libOk_mk (ents := [(81, [e81 K])]) (bodies := []) (loops := [(2, [n70_2 K])]) order tiOk ⟨one_ent (e81_ok K), trivial⟩ trivial Try.func70 rfl lp70 ⟨no_lent, one_lent (n70_2_ok K), trivial⟩
noncomputable def implb70_0 (K : Nat) (rc : (List Int) → (List Int) → (List Int) → Int → Int → Option ((List Int) × Int × Unit)) (x1 : (List Int)) (x2 : (List Int)) (x3 : (List Int)) (x4 : Int) (x5 : Int) : Option ((List Int) × Int × Unit) :=
  (bif decide (x5 < x4) then (if (0 : Int) ≤ x5 ∧ x5 < (↑x3.length : Int) then (if (0 : Int) ≤ (0 : Int) ∧ (0 : Int) ≤ x5 ∧ x5 ≤ (↑x1.length : Int) then (ob (impll70_2 K K x1 x2 (x3.getD x5.toNat ((0 : Int))) x3 x4 x5 (List.take x5.toNat x1) (Int.ofNat (List.take x5.toNat x1).length) ((0 : Int))) fun y1 => (rc x1 y1.1 x3 x4 (IntKind.i64.wrap (x5 + (1 : Int))))) else none) else none) else some ((x2, x5, ())))
noncomputable def impll70_0 (K : Nat) : Nat → (List Int) → (List Int) → (List Int) → Int → Int → Option ((List Int) × Int × Unit)
  | 0, _, _, _, _, _ => none
  | k + 1, x1, x2, x3, x4, x5 => implb70_0 K (impll70_0 K k) x1 x2 x3 x4 x5
noncomputable def n70_0 (K : Nat) : Lent := ⟨[0, 3, 8, 9, 10], i70_0, [11, 12, 13, 14, 4, 5, 15, 16, 17, 18, 19, 20, 21, 22, 7, 23, 24, 25, 26, 27, 28, 29, 30], [0], false, res70, fun x => impll70_0 K K x.1 x.2.1 x.2.2.1 x.2.2.2.1 x.2.2.2.2.1, [], none⟩
theorem q70_0 (K : Nat) (rc : (List Int) → (List Int) → (List Int) → Int → Int → Option ((List Int) × Int × Unit)) (x1 : (List Int)) (x2 : (List Int)) (x3 : (List Int)) (x4 : Int) (x5 : Int) : evLoop (L70_1 K) 3 70 Try.f70.results.toList (loopOf 0 (codeOf Try.f70)) 0 [0, 3, 8, 9, 10] [] i70_0 [0] false res70 (fun x => rc x.1 x.2.1 x.2.2.1 x.2.2.2.1 x.2.2.2.2.1) (x1, x2, x3, x4, x5, ()) = implb70_0 K rc x1 x2 x3 x4 x5 := by kernel_rfl
theorem lp70_0 : loopsIn (loopOf 0 (codeOf Try.f70)) 0 = [(2, loopOf 2 (codeOf Try.f70))] := by kernel_rfl
theorem n70_0_ok (K : Nat) : LentOk Try.prog Try.f70 (loopOf 0 (codeOf Try.f70)) (n70_0 K) := lentOk_k (slots := [0, 3, 8, 9, 10]) (ali := []) (ins := i70_0) (writes := [11, 12, 13, 14, 4, 5, 15, 16, 17, 18, 19, 20, 21, 22, 7, 23, 24, 25, 26, 27, 28, 29, 30]) (exits := [0]) (rets := false) (rs := res70) (d := 3) (lib70_1 K) lp70_0 ⟨one_lent (n70_2_ok K), trivial⟩ (by kernel_rfl) (by kernel_rfl) (by kernel_rfl) (by kernel_rfl) (by kernel_rfl) (fun k x => impll70_0 K k x.1 x.2.1 x.2.2.1 x.2.2.2.1 x.2.2.2.2.1) (fun _ => rfl) (fun k x => q70_0 K (impll70_0 K k) x.1 x.2.1 x.2.2.1 x.2.2.2.1 x.2.2.2.2.1) K
noncomputable def L70_2 (K : Nat) : Lib := mkLib ti [(81, [e81 K])] [] 70 [(2, [n70_2 K]), (0, [n70_0 K])]
theorem lib70_2 (K : Nat) : LibOk Try.prog (L70_2 K) := libOk_mk (ents := [(81, [e81 K])]) (bodies := []) (loops := [(2, [n70_2 K]), (0, [n70_0 K])]) order tiOk ⟨one_ent (e81_ok K), trivial⟩ trivial Try.func70 rfl lp70 ⟨one_lent (n70_0_ok K), one_lent (n70_2_ok K), trivial⟩
noncomputable def implf70 (K : Nat) (x1 : (List Int)) : Option ((List Int)) :=
  (ob (impll70_0 K K x1 [] x1 ((↑x1.length : Int)) ((0 : Int))) fun y1 => (ob (implf81 K y1.1) fun y2 => some (y2)))
theorem q70 (K : Nat) (x1 : (List Int)) : evFnK (α := (List Int)) (L70_2 K) 3 70 Try.f70.results.toList (codeOf Try.f70) ins70 res70 (fun p => p.1) (x1, ()) = implf70 K x1 := by kernel_rfl
noncomputable def e70 (K : Nat) : Ent := ⟨ins70, res70, (List Int), fun x => implf70 K x.1, fun _ => (fun y => (y, (()))), false⟩
theorem e70_ok (K : Nat) : EntOk Try.prog 70 (e70 K) := entOk_k (ins := ins70) (rs := res70) (α := (List Int)) (lib70_2 K) (d := 3) Try.func70 rfl (by kernel_rfl) (by kernel_rfl) (by kernel_rfl) (fun x => implf70 K x.1) (fun p => p.1) (fun y => (y, (()))) (fun _ => rfl) (fun x => q70 K x.1)

/-! diaphone/echo.IsRuler -/
abbrev ins27 : Fs := [(.dat (.sl (.int .i64)), false)]
abbrev res27 : Sh := .cons (.dat (.bool)) (.cons (.dat (.int .i64)) (.un))
theorem lp27 : loopsIn (codeOf Try.f27) 0 = [] := by kernel_rfl
noncomputable def L27_0 (K : Nat) : Lib := mkLib ti [(32, [e32 K]), (70, [e70 K]), (83, [e83 K]), (89, [e89 K])] [(67, Try.f67)] 27 []
theorem lib27_0 (K : Nat) : LibOk Try.prog (L27_0 K) := libOk_mk (ents := [(32, [e32 K]), (70, [e70 K]), (83, [e83 K]), (89, [e89 K])]) (bodies := [(67, Try.f67)]) (loops := []) order tiOk ⟨one_ent (e32_ok K), one_ent (e70_ok K), one_ent (e83_ok K), one_ent (e89_ok K), trivial⟩ ⟨bod67, trivial⟩ Try.func27 rfl lp27 trivial
noncomputable def implf27 (K : Nat) (x1 : (List Int)) : Option (Bool × Int) :=
  (ob (implf32 K x1) fun y1 => (bif y1 != (0 : Int) then some ((false, y1)) else (ob (implf70 K x1) fun y2 => (ob (implf83 K y2) fun y3 => (ob (implf89 K y3) fun y4 => some (((↑y4.length : Int) == (↑y2.length : Int), (0 : Int))))))))
theorem q27 (K : Nat) (x1 : (List Int)) : evFnK (α := Bool × Int) (L27_0 K) 3 27 Try.f27.results.toList (codeOf Try.f27) ins27 res27 (fun p => (p.1.1, p.1.2.1)) (x1, ()) = implf27 K x1 := by kernel_rfl
noncomputable def e27 (K : Nat) : Ent := ⟨ins27, res27, Bool × Int, fun x => implf27 K x.1, fun _ => (fun y => ((y.1, y.2, ()), (()))), false⟩
theorem e27_ok (K : Nat) : EntOk Try.prog 27 (e27 K) := entOk_k (ins := ins27) (rs := res27) (α := Bool × Int) (lib27_0 K) (d := 3) Try.func27 rfl (by kernel_rfl) (by kernel_rfl) (by kernel_rfl) (fun x => implf27 K x.1) (fun p => (p.1.1, p.1.2.1)) (fun y => ((y.1, y.2, ()), (()))) (fun _ => rfl) (fun x => q27 K x.1)

/-! diaphone/echo.Same -/
abbrev ins28 : Fs := [(.dat (.sl (.int .i64)), false), (.dat (.sl (.int .i64)), false)]
abbrev res28 : Sh := .cons (.dat (.bool)) (.cons (.dat (.int .i64)) (.un))
theorem lp28 : loopsIn (codeOf Try.f28) 0 = [] := by kernel_rfl
noncomputable def L28_0 (K : Nat) : Lib := mkLib ti [(68, [e68 K]), (69, [e69 K]), (70, [e70 K])] [] 28 []
theorem lib28_0 (K : Nat) : LibOk Try.prog (L28_0 K) := libOk_mk (ents := [(68, [e68 K]), (69, [e69 K]), (70, [e70 K])]) (bodies := []) (loops := []) order tiOk ⟨one_ent (e68_ok K), one_ent (e69_ok K), one_ent (e70_ok K), trivial⟩ trivial Try.func28 rfl lp28 trivial
noncomputable def implf28 (K : Nat) (x1 : (List Int)) (x2 : (List Int)) : Option (Bool × Int) :=
  (ob (implf68 K x1 x2) fun y1 => (bif y1 != (0 : Int) then some ((false, y1)) else (ob (implf70 K x1) fun y2 => (ob (implf70 K x2) fun y3 => (ob (implf69 K y2 y3) fun y4 => some ((y4, (0 : Int))))))))
theorem q28 (K : Nat) (x1 : (List Int)) (x2 : (List Int)) : evFnK (α := Bool × Int) (L28_0 K) 3 28 Try.f28.results.toList (codeOf Try.f28) ins28 res28 (fun p => (p.1.1, p.1.2.1)) (x1, x2, ()) = implf28 K x1 x2 := by kernel_rfl
noncomputable def e28 (K : Nat) : Ent := ⟨ins28, res28, Bool × Int, fun x => implf28 K x.1 x.2.1, fun _ => (fun y => ((y.1, y.2, ()), (()))), false⟩
theorem e28_ok (K : Nat) : EntOk Try.prog 28 (e28 K) := entOk_k (ins := ins28) (rs := res28) (α := Bool × Int) (lib28_0 K) (d := 3) Try.func28 rfl (by kernel_rfl) (by kernel_rfl) (by kernel_rfl) (fun x => implf28 K x.1 x.2.1) (fun p => (p.1.1, p.1.2.1)) (fun y => ((y.1, y.2, ()), (()))) (fun _ => rfl) (fun x => q28 K x.1 x.2.1)

/-! diaphone/echo.Delays -/
abbrev ins29 : Fs := [(.dat (.sl (.int .i64)), false)]
abbrev res29 : Sh := .cons (.own (.int .i64)) (.cons (.dat (.int .i64)) (.un))
theorem lp29 : loopsIn (codeOf Try.f29) 0 = [] := by kernel_rfl
noncomputable def L29_0 (K : Nat) : Lib := mkLib ti [(32, [e32 K]), (70, [e70 K])] [] 29 []
theorem lib29_0 (K : Nat) : LibOk Try.prog (L29_0 K) := libOk_mk (ents := [(32, [e32 K]), (70, [e70 K])]) (bodies := []) (loops := []) order tiOk ⟨one_ent (e32_ok K), one_ent (e70_ok K), trivial⟩ trivial Try.func29 rfl lp29 trivial
noncomputable def implf29 (K : Nat) (x1 : (List Int)) : Option ((List Int) × Int) :=
  (ob (implf32 K x1) fun y1 => (bif y1 != (0 : Int) then some (([], y1)) else (ob (implf70 K x1) fun y2 => some ((y2, (0 : Int))))))
theorem q29 (K : Nat) (x1 : (List Int)) : evFnK (α := (List Int) × Int) (L29_0 K) 3 29 Try.f29.results.toList (codeOf Try.f29) ins29 res29 (fun p => (p.1.1, p.1.2.1)) (x1, ()) = implf29 K x1 := by kernel_rfl
noncomputable def e29 (K : Nat) : Ent := ⟨ins29, res29, (List Int) × Int, fun x => implf29 K x.1, fun _ => (fun y => ((y.1, y.2, ()), (()))), false⟩
theorem e29_ok (K : Nat) : EntOk Try.prog 29 (e29 K) := entOk_k (ins := ins29) (rs := res29) (α := (List Int) × Int) (lib29_0 K) (d := 3) Try.func29 rfl (by kernel_rfl) (by kernel_rfl) (by kernel_rfl) (fun x => implf29 K x.1) (fun p => (p.1.1, p.1.2.1)) (fun y => ((y.1, y.2, ()), (()))) (fun _ => rfl) (fun x => q29 K x.1)

/-! diaphone/echo.CheckCliffs -/
abbrev ins34 : Fs := [(.dat (.sl (.int .i64)), false), (.dat (.sl (.int .i64)), false)]
abbrev res34 : Sh := .dat (.int .i64)
theorem lp34 : loopsIn (codeOf Try.f34) 0 = [] := by kernel_rfl
noncomputable def L34_0 (K : Nat) : Lib := mkLib ti [(32, [e32 K]), (69, [e69 K]), (70, [e70 K]), (72, [e72 K])] [] 34 []
theorem lib34_0 (K : Nat) : LibOk Try.prog (L34_0 K) := libOk_mk (ents := [(32, [e32 K]), (69, [e69 K]), (70, [e70 K]), (72, [e72 K])]) (bodies := []) (loops := []) order tiOk ⟨one_ent (e32_ok K), one_ent (e69_ok K), one_ent (e70_ok K), one_ent (e72_ok K), trivial⟩ trivial Try.func34 rfl lp34 trivial
noncomputable def implf34 (K : Nat) (x1 : (List Int)) (x2 : (List Int)) : Option (Int) :=
  (ob (implf72 K x1) fun y1 => (bif y1 != (0 : Int) then some (y1) else (ob (implf32 K x2) fun y2 => (bif y2 != (0 : Int) then some (y2) else (ob (implf70 K x2) fun y3 => (ob (implf69 K y3 x1) fun y4 => (bif !y4 then some ((7 : Int)) else some ((0 : Int)))))))))
theorem q34 (K : Nat) (x1 : (List Int)) (x2 : (List Int)) : evFnK (α := Int) (L34_0 K) 3 34 Try.f34.results.toList (codeOf Try.f34) ins34 res34 (fun p => p.1) (x1, x2, ()) = implf34 K x1 x2 := by kernel_rfl
noncomputable def e34 (K : Nat) : Ent := ⟨ins34, res34, Int, fun x => implf34 K x.1 x.2.1, fun _ => (fun y => (y, (()))), false⟩
theorem e34_ok (K : Nat) : EntOk Try.prog 34 (e34 K) := entOk_k (ins := ins34) (rs := res34) (α := Int) (lib34_0 K) (d := 3) Try.func34 rfl (by kernel_rfl) (by kernel_rfl) (by kernel_rfl) (fun x => implf34 K x.1 x.2.1) (fun p => p.1) (fun y => (y, (()))) (fun _ => rfl) (fun x => q34 K x.1 x.2.1)

/-! diaphone/echo.Normal -/
abbrev ins36 : Fs := [(.dat (.sl (.int .i64)), false)]
abbrev res36 : Sh := .cons (.own (.int .i64)) (.cons (.dat (.int .i64)) (.un))
theorem lp36 : loopsIn (codeOf Try.f36) 0 = [] := by kernel_rfl
noncomputable def L36_0 (K : Nat) : Lib := mkLib ti [(32, [e32 K]), (74, [e74 K])] [] 36 []
theorem lib36_0 (K : Nat) : LibOk Try.prog (L36_0 K) := libOk_mk (ents := [(32, [e32 K]), (74, [e74 K])]) (bodies := []) (loops := []) order tiOk ⟨one_ent (e32_ok K), one_ent (e74_ok K), trivial⟩ trivial Try.func36 rfl lp36 trivial
noncomputable def implf36 (K : Nat) (x1 : (List Int)) : Option ((List Int) × Int) :=
  (ob (implf32 K x1) fun y1 => (bif y1 != (0 : Int) then some (([], y1)) else (ob (implf74 K x1) fun y2 => some ((y2, (0 : Int))))))
theorem q36 (K : Nat) (x1 : (List Int)) : evFnK (α := (List Int) × Int) (L36_0 K) 3 36 Try.f36.results.toList (codeOf Try.f36) ins36 res36 (fun p => (p.1.1, p.1.2.1)) (x1, ()) = implf36 K x1 := by kernel_rfl
noncomputable def e36 (K : Nat) : Ent := ⟨ins36, res36, (List Int) × Int, fun x => implf36 K x.1, fun _ => (fun y => ((y.1, y.2, ()), (()))), false⟩
theorem e36_ok (K : Nat) : EntOk Try.prog 36 (e36 K) := entOk_k (ins := ins36) (rs := res36) (α := (List Int) × Int) (lib36_0 K) (d := 3) Try.func36 rfl (by kernel_rfl) (by kernel_rfl) (by kernel_rfl) (fun x => implf36 K x.1) (fun p => (p.1.1, p.1.2.1)) (fun y => ((y.1, y.2, ()), (()))) (fun _ => rfl) (fun x => q36 K x.1)

/-! diaphone/echo.Alike -/
abbrev ins40 : Fs := [(.dat (.sl (.int .i64)), false), (.dat (.sl (.int .i64)), false)]
abbrev res40 : Sh := .cons (.dat (.bool)) (.cons (.dat (.int .i64)) (.un))
theorem lp40 : loopsIn (codeOf Try.f40) 0 = [] := by kernel_rfl
noncomputable def L40_0 (K : Nat) : Lib := mkLib ti [(68, [e68 K]), (69, [e69 K]), (74, [e74 K])] [] 40 []
theorem lib40_0 (K : Nat) : LibOk Try.prog (L40_0 K) := libOk_mk (ents := [(68, [e68 K]), (69, [e69 K]), (74, [e74 K])]) (bodies := []) (loops := []) order tiOk ⟨one_ent (e68_ok K), one_ent (e69_ok K), one_ent (e74_ok K), trivial⟩ trivial Try.func40 rfl lp40 trivial
noncomputable def implf40 (K : Nat) (x1 : (List Int)) (x2 : (List Int)) : Option (Bool × Int) :=
  (ob (implf68 K x1 x2) fun y1 => (bif y1 != (0 : Int) then some ((false, y1)) else (ob (implf74 K x1) fun y2 => (ob (implf74 K x2) fun y3 => (ob (implf69 K y2 y3) fun y4 => some ((y4, (0 : Int))))))))
theorem q40 (K : Nat) (x1 : (List Int)) (x2 : (List Int)) : evFnK (α := Bool × Int) (L40_0 K) 3 40 Try.f40.results.toList (codeOf Try.f40) ins40 res40 (fun p => (p.1.1, p.1.2.1)) (x1, x2, ()) = implf40 K x1 x2 := by kernel_rfl
noncomputable def e40 (K : Nat) : Ent := ⟨ins40, res40, Bool × Int, fun x => implf40 K x.1 x.2.1, fun _ => (fun y => ((y.1, y.2, ()), (()))), false⟩
theorem e40_ok (K : Nat) : EntOk Try.prog 40 (e40 K) := entOk_k (ins := ins40) (rs := res40) (α := Bool × Int) (lib40_0 K) (d := 3) Try.func40 rfl (by kernel_rfl) (by kernel_rfl) (by kernel_rfl) (fun x => implf40 K x.1 x.2.1) (fun p => (p.1.1, p.1.2.1)) (fun y => ((y.1, y.2, ()), (()))) (fun _ => rfl) (fun x => q40 K x.1 x.2.1)

end Go.Proofs.Ytdgibokmaannjaa
