/- What the functions compute: printed by a program of this claim's author. -/
import Derived.Test.YtdgibokmaannjaaF4
set_option maxRecDepth 100000
set_option linter.unusedVariables false
set_option linter.unusedSimpArgs false
namespace Go.Proofs.Ytdgibokmaannjaa
open Go Go.Pv

/-! diaphone/echo.Find -/
abbrev ins55 : Fs := [(.dat (.sl (.int .i64)), false)]
abbrev res55 : Sh := .cons (.dat (.sl (.int .i64))) (.cons (.dat (.bool)) (.cons (.dat (.int .i64)) (.un)))
theorem lp55 : loopsIn (codeOf Try.f55) 0 = [] := by kernel_rfl
noncomputable def L55_0 (K : Nat) : Lib := mkLib ti [(72, [e72 K]), (110, [e110 K]), (95, [e95 K]), (96, [e96 K]), (97, [e97 K]), (98, [e98 K]), (88, [e88 K])] [(69, Try.f69), (75, Try.f75), (94, Try.f94)] 55 []
theorem lib55_0 (K : Nat) : LibOk Try.prog (L55_0 K) := libOk_mk (ents := [(72, [e72 K]), (110, [e110 K]), (95, [e95 K]), (96, [e96 K]), (97, [e97 K]), (98, [e98 K]), (88, [e88 K])]) (bodies := [(69, Try.f69), (75, Try.f75), (94, Try.f94)]) (loops := []) order tiOk ⟨one_ent (e72_ok K), one_ent (e110_ok K), one_ent (e95_ok K), one_ent (e96_ok K), one_ent (e97_ok K), one_ent (e98_ok K), one_ent (e88_ok K), trivial⟩ ⟨bod69, bod75, bod94, trivial⟩ Try.func55 rfl lp55 trivial
noncomputable def implf55 (K : Nat) (x1 : (List Int)) : Option ((List Int) × Bool × Int) :=
  (ob (implf72 K x1) fun y1 => (bif y1 != (0 : Int) then some (([], false, y1)) else (ob (implf88 K x1) fun y2 => (bif !y2 then some (([], false, (0 : Int))) else (ob (implf95 K x1 ([], ())) fun y3 => (ob (implf97 K y3.1) fun y4 => (ob (implf98 K y4) fun y5 => (if (0 : Int) ≤ (0 : Int) ∧ (0 : Int) < (↑y5.length : Int) then some ((y5.getD (0) [], true, (0 : Int))) else none))))))))
theorem q55 (K : Nat) (x1 : (List Int)) : evFnK (α := (List Int) × Bool × Int) (L55_0 K) 3 55 Try.f55.results.toList (codeOf Try.f55) ins55 res55 (fun p => (p.1.1, p.1.2.1, p.1.2.2.1)) (x1, ()) = implf55 K x1 := by kernel_rfl
noncomputable def e55 (K : Nat) : Ent := ⟨ins55, res55, (List Int) × Bool × Int, fun x => implf55 K x.1, fun _ => (fun y => ((y.1, y.2.1, y.2.2, ()), (()))), false⟩
theorem e55_ok (K : Nat) : EntOk Try.prog 55 (e55 K) := entOk_k (ins := ins55) (rs := res55) (α := (List Int) × Bool × Int) (lib55_0 K) (d := 3) Try.func55 rfl (by kernel_rfl) (by kernel_rfl) (by kernel_rfl) (fun x => implf55 K x.1) (fun p => (p.1.1, p.1.2.1, p.1.2.2.1)) (fun y => ((y.1, y.2.1, y.2.2, ()), (()))) (fun _ => rfl) (fun x => q55 K x.1)

/-! diaphone/diaphoneref05.Find -/
abbrev ins56 : Fs := [(.dat (.sl (.int .i64)), false)]
abbrev res56 : Sh := .cons (.dat (.sl (.int .i64))) (.cons (.dat (.bool)) (.cons (.dat (.int .i64)) (.un)))
theorem lp56 : loopsIn (codeOf Try.f56) 0 = [] := by kernel_rfl
noncomputable def L56_0 (K : Nat) : Lib := mkLib ti [(54, [e54 K])] [] 56 []
theorem lib56_0 (K : Nat) : LibOk Try.prog (L56_0 K) := libOk_mk (ents := [(54, [e54 K])]) (bodies := []) (loops := []) order tiOk ⟨one_ent (e54_ok K), trivial⟩ trivial Try.func56 rfl lp56 trivial
noncomputable def implf56 (K : Nat) (x1 : (List Int)) : Option ((List Int) × Bool × Int) :=
  (ob (implf54 K x1) fun y1 => (bif (↑y1.1.length : Int) == (0 : Int) then some (([], false, y1.2)) else (if (0 : Int) ≤ (0 : Int) ∧ (0 : Int) < (↑y1.1.length : Int) then some ((y1.1.getD (0) [], true, (0 : Int))) else none)))
theorem q56 (K : Nat) (x1 : (List Int)) : evFnK (α := (List Int) × Bool × Int) (L56_0 K) 3 56 Try.f56.results.toList (codeOf Try.f56) ins56 res56 (fun p => (p.1.1, p.1.2.1, p.1.2.2.1)) (x1, ()) = implf56 K x1 := by kernel_rfl
noncomputable def e56 (K : Nat) : Ent := ⟨ins56, res56, (List Int) × Bool × Int, fun x => implf56 K x.1, fun _ => (fun y => ((y.1, y.2.1, y.2.2, ()), (()))), false⟩
theorem e56_ok (K : Nat) : EntOk Try.prog 56 (e56 K) := entOk_k (ins := ins56) (rs := res56) (α := (List Int) × Bool × Int) (lib56_0 K) (d := 3) Try.func56 rfl (by kernel_rfl) (by kernel_rfl) (by kernel_rfl) (fun x => implf56 K x.1) (fun p => (p.1.1, p.1.2.1, p.1.2.2.1)) (fun y => ((y.1, y.2.1, y.2.2, ()), (()))) (fun _ => rfl) (fun x => q56 K x.1)

/-! diaphone/diaphonelaw05.EchoFinds -/
abbrev ins16 : Fs := [(.dat (.sl (.int .i64)), false)]
abbrev res16 : Sh := .dat (.bool)
theorem lp16 : loopsIn (codeOf Try.f16) 0 = [(0, loopOf 0 (codeOf Try.f16))] := by kernel_rfl
noncomputable def L16_0 (K : Nat) : Lib := mkLibR ti [(18, [e18 K]), (19, [e19 K]), (24, [e24 K]), (34, [e34 K]), (37, [e37 K]), (54, [e54 K]), (55, [e55 K]), (56, [e56 K]), (57, [e57 K])] [] 16 [] [] [37, 55] [] []
theorem lib16_0 (K : Nat) : LibOk Try.prog (L16_0 K) := libOk_mkR (ents := [(18, [e18 K]), (19, [e19 K]), (24, [e24 K]), (34, [e34 K]), (37, [e37 K]), (54, [e54 K]), (55, [e55 K]), (56, [e56 K]), (57, [e57 K])]) (bodies := []) (loops := []) order tiOk ⟨one_ent (e18_ok K), one_ent (e19_ok K), one_ent (e24_ok K), one_ent (e34_ok K), one_ent (e37_ok K), one_ent (e54_ok K), one_ent (e55_ok K), one_ent (e56_ok K), one_ent (e57_ok K), trivial⟩ trivial Try.func16 rfl lp16 ⟨no_lent, trivial⟩ (rngs := []) trivial (frz := [37, 55]) (opts := []) trivial
abbrev i16_0 : Fs := [(.dat (.sl (.int Go.IntKind.i64)), false), (.own (.sl (.int Go.IntKind.i64)), false), (.dat (.int Go.IntKind.i64), true)]
noncomputable def implb16_0 (K : Nat) (rc : (List Int) → (List (List Int)) → Int → Option (Sum (Int × Unit) Bool)) (x1 : (List Int)) (x2 : (List (List Int))) (x3 : Int) : Option (Sum (Int × Unit) Bool) :=
  (bif decide (x3 < (↑x2.length : Int)) then (if (0 : Int) ≤ x3 ∧ x3 < (↑x2.length : Int) then (ob (implf34 K x1 (x2.getD x3.toNat [])) fun y1 => (bif y1 != (0 : Int) then some (Sum.inr false) else (rc x1 x2 (IntKind.i64.wrap (x3 + (1 : Int)))))) else none) else some (Sum.inl (x3, ())))
noncomputable def impll16_0 (K : Nat) : Nat → (List Int) → (List (List Int)) → Int → Option (Sum (Int × Unit) Bool)
  | 0, _, _, _ => none
  | k + 1, x1, x2, x3 => implb16_0 K (impll16_0 K k) x1 x2 x3
noncomputable def n16_0 (K : Nat) : Lent := ⟨[0, 3, 13], i16_0, [65, 66, 67, 68, 71, 72, 73, 74, 75, 76, 77, 2, 69, 70], [0], true, res16, fun x => impll16_0 K K x.1 x.2.1 x.2.2.1, [], none⟩
theorem q16_0 (K : Nat) (rc : (List Int) → (List (List Int)) → Int → Option (Sum (Int × Unit) Bool)) (x1 : (List Int)) (x2 : (List (List Int))) (x3 : Int) : evLoop (L16_0 K) 3 16 Try.f16.results.toList (loopOf 0 (codeOf Try.f16)) 0 [0, 3, 13] [] i16_0 [0] true res16 (fun x => rc x.1 x.2.1 x.2.2.1) (x1, x2, x3, ()) = implb16_0 K rc x1 x2 x3 := by kernel_rfl
theorem lp16_0 : loopsIn (loopOf 0 (codeOf Try.f16)) 0 = [] := by kernel_rfl
theorem n16_0_ok (K : Nat) : LentOk Try.prog Try.f16 (loopOf 0 (codeOf Try.f16)) (n16_0 K) := lentOk_kR (slots := [0, 3, 13]) (ali := []) (ins := i16_0) (writes := [65, 66, 67, 68, 71, 72, 73, 74, 75, 76, 77, 2, 69, 70]) (exits := [0]) (rets := true) (rs := res16) (d := 3) (lib16_0 K) Try.func16 rfl (.inl (by kernel_rfl)) lp16_0 trivial (by kernel_rfl) (by kernel_rfl) (by kernel_rfl) (by kernel_rfl) (by kernel_rfl) (fun k x => impll16_0 K k x.1 x.2.1 x.2.2.1) (fun _ => rfl) (fun k x => q16_0 K (impll16_0 K k) x.1 x.2.1 x.2.2.1) K
noncomputable def L16_1 (K : Nat) : Lib := mkLibR ti [(18, [e18 K]), (19, [e19 K]), (24, [e24 K]), (34, [e34 K]), (37, [e37 K]), (54, [e54 K]), (55, [e55 K]), (56, [e56 K]), (57, [e57 K])] [] 16 [(0, [n16_0 K])] [] [37, 55] [] []
theorem lib16_1 (K : Nat) : LibOk Try.prog (L16_1 K) := libOk_mkR (ents := [(18, [e18 K]), (19, [e19 K]), (24, [e24 K]), (34, [e34 K]), (37, [e37 K]), (54, [e54 K]), (55, [e55 K]), (56, [e56 K]), (57, [e57 K])]) (bodies := []) (loops := [(0, [n16_0 K])]) order tiOk ⟨one_ent (e18_ok K), one_ent (e19_ok K), one_ent (e24_ok K), one_ent (e34_ok K), one_ent (e37_ok K), one_ent (e54_ok K), one_ent (e55_ok K), one_ent (e56_ok K), one_ent (e57_ok K), trivial⟩ trivial Try.func16 rfl lp16 ⟨one_lent (n16_0_ok K), trivial⟩ (rngs := []) trivial (frz := [37, 55]) (opts := []) trivial
noncomputable def implf16 (K : Nat) (x1 : (List Int)) : Option (Bool) :=
  (ob (implf18 K ((List.replicate 1 []).set 0 x1)) fun y1 => (bif y1 then (ob (implf19 K) fun y2 => some (y2)) else (ob (implf37 K x1) fun y3 => (ob (implf54 K x1) fun y4 => (ob (implf55 K x1) fun y5 => (ob (implf56 K x1) fun y6 => (ob (implf57 K y3.1 y4.1) fun y7 => (bif !y7 then some (false) else (bif y3.2 != y4.2 then some (false) else (ob (implf24 K y5.1 y6.1) fun y8 => (bif !y8 then some (false) else (bif !y5.2.1 == y6.2.1 then some (false) else (bif y5.2.2 != y6.2.2 then some (false) else (ob (impll16_0 K K x1 y3.1 ((0 : Int))) fun y9 => (match y9 with | .inl y10 => (ob (implf19 K) fun y11 => some (y11)) | .inr y10 => some (y10))))))))))))))))
theorem q16 (K : Nat) (x1 : (List Int)) : evFnK (α := Bool) (L16_1 K) 3 16 Try.f16.results.toList (codeOf Try.f16) ins16 res16 (fun p => p.1) (x1, ()) = implf16 K x1 := by kernel_rfl
noncomputable def e16 (K : Nat) : Ent := ⟨ins16, res16, Bool, fun x => implf16 K x.1, fun _ => (fun y => (y, (()))), false⟩
theorem e16_ok (K : Nat) : EntOk Try.prog 16 (e16 K) := entOk_k (ins := ins16) (rs := res16) (α := Bool) (lib16_1 K) (d := 3) Try.func16 rfl (by kernel_rfl) (by kernel_rfl) (by kernel_rfl) (fun x => implf16 K x.1) (fun p => p.1) (fun y => (y, (()))) (fun _ => rfl) (fun x => q16 K x.1)

end Go.Proofs.Ytdgibokmaannjaa
