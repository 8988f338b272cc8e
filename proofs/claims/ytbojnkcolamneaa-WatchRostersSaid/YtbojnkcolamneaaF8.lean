/- What the functions compute: printed by a program of this claim's author. -/
import Derived.Test.YtbojnkcolamneaaF7
set_option maxRecDepth 100000
set_option linter.unusedVariables false
namespace Go.Proofs.Ytbojnkcolamneaa
open Go Go.Pv

/-! diaphone/diaphoneref04.Mirror -/
abbrev ins53 : Fs := [(.dat (.sl (.pr (.int .i64) (.pr (.int .i64) (.int .i64)))), false)]
abbrev res53 : Sh := .cons (.own (.pr (.int .i64) (.pr (.int .i64) (.int .i64)))) (.cons (.dat (.int .i64)) (.un))
theorem lp53 : loopsIn (codeOf Try.f53) 0 = [(0, loopOf 0 (codeOf Try.f53))] := by kernel_rfl
noncomputable def L53_0 (K : Nat) : Lib := mkLib ti [(25, [e25 K])] [] 53 []
theorem lib53_0 (K : Nat) : LibOk Try.prog (L53_0 K) := libOk_mk (ents := [(25, [e25 K])]) (bodies := []) (loops := []) order tiOk ⟨one_ent (e25_ok K), trivial⟩ trivial Try.func53 rfl lp53 ⟨no_lent, trivial⟩
abbrev i53_0 : Fs := [(.dat (.sl (.pr (.int Go.IntKind.i64) (.pr (.int Go.IntKind.i64) (.int Go.IntKind.i64)))), false), (.own (.pr (.int .i64) (.pr (.int .i64) (.int .i64))), true), (.dat (.int Go.IntKind.i64), true)]
noncomputable def implb53_0 (K : Nat) (rc : (List (Int × (Int × Int))) → (List (Int × (Int × Int))) → Int → Option ((List (Int × (Int × Int))) × Int × Unit)) (x1 : (List (Int × (Int × Int)))) (x2 : (List (Int × (Int × Int)))) (x3 : Int) : Option ((List (Int × (Int × Int))) × Int × Unit) :=
  (bif decide (x3 < (↑x1.length : Int)) then (if (0 : Int) ≤ x3 ∧ x3 < (↑x1.length : Int) then (if (0 : Int) ≤ x3 ∧ x3 < (↑x1.length : Int) then (if (0 : Int) ≤ x3 ∧ x3 < (↑x1.length : Int) then (if (x2.length + ((List.replicate 1 ((0 : Int), (0 : Int), (0 : Int))).set 0 (IntKind.i64.wrap ((1000 : Int) - (x1.getD x3.toNat ((0 : Int), (0 : Int), (0 : Int))).2.1), IntKind.i64.wrap ((1000 : Int) - (x1.getD x3.toNat ((0 : Int), (0 : Int), (0 : Int))).1), (x1.getD x3.toNat ((0 : Int), (0 : Int), (0 : Int))).2.2)).length) * 24 ≤ 140737488355328 then (rc x1 (x2 ++ (List.replicate 1 ((0 : Int), (0 : Int), (0 : Int))).set 0 (IntKind.i64.wrap ((1000 : Int) - (x1.getD x3.toNat ((0 : Int), (0 : Int), (0 : Int))).2.1), IntKind.i64.wrap ((1000 : Int) - (x1.getD x3.toNat ((0 : Int), (0 : Int), (0 : Int))).1), (x1.getD x3.toNat ((0 : Int), (0 : Int), (0 : Int))).2.2)) (IntKind.i64.wrap (x3 + (1 : Int)))) else none) else none) else none) else none) else some ((x2, x3, ())))
noncomputable def impll53_0 (K : Nat) : Nat → (List (Int × (Int × Int))) → (List (Int × (Int × Int))) → Int → Option ((List (Int × (Int × Int))) × Int × Unit)
  | 0, _, _, _ => none
  | k + 1, x1, x2, x3 => implb53_0 K (impll53_0 K k) x1 x2 x3
noncomputable def n53_0 (K : Nat) : Lent := ⟨[0, 5, 6], i53_0, [12, 13, 14, 15, 18, 19, 20, 21, 22, 23, 24, 25, 26, 27, 28, 29, 30, 31, 32, 33, 34, 35, 36, 37, 38, 16, 17], [0], false, res53, fun x => impll53_0 K K x.1 x.2.1 x.2.2.1, []⟩
theorem q53_0 (K : Nat) (rc : (List (Int × (Int × Int))) → (List (Int × (Int × Int))) → Int → Option ((List (Int × (Int × Int))) × Int × Unit)) (x1 : (List (Int × (Int × Int)))) (x2 : (List (Int × (Int × Int)))) (x3 : Int) : evLoop (L53_0 K) 3 53 Try.f53.results.toList (loopOf 0 (codeOf Try.f53)) 0 [0, 5, 6] [] i53_0 [0] false res53 (fun x => rc x.1 x.2.1 x.2.2.1) (x1, x2, x3, ()) = implb53_0 K rc x1 x2 x3 := by kernel_rfl
theorem lp53_0 : loopsIn (loopOf 0 (codeOf Try.f53)) 0 = [] := by kernel_rfl
theorem n53_0_ok (K : Nat) : LentOk Try.prog Try.f53 (loopOf 0 (codeOf Try.f53)) (n53_0 K) := lentOk_k (slots := [0, 5, 6]) (ali := []) (ins := i53_0) (writes := [12, 13, 14, 15, 18, 19, 20, 21, 22, 23, 24, 25, 26, 27, 28, 29, 30, 31, 32, 33, 34, 35, 36, 37, 38, 16, 17]) (exits := [0]) (rets := false) (rs := res53) (lib53_0 K) lp53_0 trivial (by kernel_rfl) (by kernel_rfl) (by kernel_rfl) (by kernel_rfl) (by kernel_rfl) (fun k x => impll53_0 K k x.1 x.2.1 x.2.2.1) (fun _ => rfl) (fun k x => q53_0 K (impll53_0 K k) x.1 x.2.1 x.2.2.1) K
noncomputable def L53_1 (K : Nat) : Lib := mkLib ti [(25, [e25 K])] [] 53 [(0, [n53_0 K])]
theorem lib53_1 (K : Nat) : LibOk Try.prog (L53_1 K) := libOk_mk (ents := [(25, [e25 K])]) (bodies := []) (loops := [(0, [n53_0 K])]) order tiOk ⟨one_ent (e25_ok K), trivial⟩ trivial Try.func53 rfl lp53 ⟨one_lent (n53_0_ok K), trivial⟩
noncomputable def implf53 (K : Nat) (x1 : (List (Int × (Int × Int)))) : Option ((List (Int × (Int × Int))) × Int) :=
  (ob (implf25 K x1) fun y1 => (bif y1 != (0 : Int) then some (([], y1)) else (ob (impll53_0 K K x1 [] ((0 : Int))) fun y2 => some ((y2.1, (0 : Int))))))
theorem q53 (K : Nat) (x1 : (List (Int × (Int × Int)))) : evFnK (α := (List (Int × (Int × Int))) × Int) (L53_1 K) 3 53 Try.f53.results.toList (codeOf Try.f53) ins53 res53 (fun p => (p.1.1, p.1.2.1)) (x1, ()) = implf53 K x1 := by kernel_rfl
noncomputable def e53 (K : Nat) : Ent := ⟨ins53, res53, (List (Int × (Int × Int))) × Int, fun x => implf53 K x.1, fun _ => (fun y => ((y.1, y.2, ()), (()))), false⟩
theorem e53_ok (K : Nat) : EntOk Try.prog 53 (e53 K) := entOk_k (ins := ins53) (rs := res53) (α := (List (Int × (Int × Int))) × Int) (lib53_1 K) (d := 3) Try.func53 rfl (by kernel_rfl) (by kernel_rfl) (by kernel_rfl) (fun x => implf53 K x.1) (fun p => (p.1.1, p.1.2.1)) (fun y => ((y.1, y.2, ()), (()))) (fun _ => rfl) (fun x => q53 K x.1)

/-! diaphone/diaphonelaw04.same -/
abbrev ins54 : Fs := [(.dat (.sl (.pr (.int .i64) (.pr (.int .i64) (.int .i64)))), false), (.dat (.sl (.pr (.int .i64) (.pr (.int .i64) (.int .i64)))), false)]
abbrev res54 : Sh := .dat (.bool)
theorem lp54 : loopsIn (codeOf Try.f54) 0 = [] := by kernel_rfl
noncomputable def L54_0 (K : Nat) : Lib := mkLib ti [(23, [e23 K]), (24, [e24 K]), (39, [e39 K]), (40, [e40 K])] [] 54 []
theorem lib54_0 (K : Nat) : LibOk Try.prog (L54_0 K) := libOk_mk (ents := [(23, [e23 K]), (24, [e24 K]), (39, [e39 K]), (40, [e40 K])]) (bodies := []) (loops := []) order tiOk ⟨one_ent (e23_ok K), one_ent (e24_ok K), one_ent (e39_ok K), one_ent (e40_ok K), trivial⟩ trivial Try.func54 rfl lp54 trivial
noncomputable def implf54 (K : Nat) (x1 : (List (Int × (Int × Int)))) (x2 : (List (Int × (Int × Int)))) : Option (Bool) :=
  (ob (implf23 K x1) fun y1 => (ob (implf23 K x2) fun y2 => (ob (implf40 K x1) fun y3 => (ob (implf40 K x2) fun y4 => (ob (implf24 K x1) fun y5 => (ob (implf24 K x2) fun y6 => (ob (implf39 K x1) fun y7 => (ob (implf39 K x2) fun y8 => (bif y1.2.2 == (0 : Int) then (bif y2.2.2 == (0 : Int) then (bif y1.2.1 == y2.2.1 then (bif y3.2 == (0 : Int) then (bif y4.2 == (0 : Int) then (bif (↑y3.1.length : Int) == (↑y4.1.length : Int) then (bif y5.2.2 == (0 : Int) then (bif y6.2.2 == (0 : Int) then (bif y5.2.1 == y6.2.1 then (bif y7.2 == (0 : Int) then (bif y8.2 == (0 : Int) then some (y7.1 == y8.1) else some (false)) else some (false)) else some (false)) else some (false)) else some (false)) else some (false)) else some (false)) else some (false)) else some (false)) else some (false)) else some (false))))))))))
theorem q54 (K : Nat) (x1 : (List (Int × (Int × Int)))) (x2 : (List (Int × (Int × Int)))) : evFnK (α := Bool) (L54_0 K) 3 54 Try.f54.results.toList (codeOf Try.f54) ins54 res54 (fun p => p.1) (x1, x2, ()) = implf54 K x1 x2 := by kernel_rfl
noncomputable def e54 (K : Nat) : Ent := ⟨ins54, res54, Bool, fun x => implf54 K x.1 x.2.1, fun _ => (fun y => (y, (()))), false⟩
theorem e54_ok (K : Nat) : EntOk Try.prog 54 (e54 K) := entOk_k (ins := ins54) (rs := res54) (α := Bool) (lib54_0 K) (d := 3) Try.func54 rfl (by kernel_rfl) (by kernel_rfl) (by kernel_rfl) (fun x => implf54 K x.1 x.2.1) (fun p => p.1) (fun y => (y, (()))) (fun _ => rfl) (fun x => q54 K x.1 x.2.1)

/-! diaphone/diaphonelaw04.WatchMirrors -/
abbrev ins17 : Fs := [(.dat (.sl (.pr (.int .i64) (.pr (.int .i64) (.int .i64)))), false)]
abbrev res17 : Sh := .dat (.bool)
theorem lp17 : loopsIn (codeOf Try.f17) 0 = [(0, loopOf 0 (codeOf Try.f17))] := by kernel_rfl
noncomputable def L17_0 (K : Nat) : Lib := mkLib ti [(19, [e19 K]), (20, [e20 K]), (49, [e49 K]), (52, [e52 K]), (53, [e53 K]), (54, [e54 K])] [] 17 []
theorem lib17_0 (K : Nat) : LibOk Try.prog (L17_0 K) := libOk_mk (ents := [(19, [e19 K]), (20, [e20 K]), (49, [e49 K]), (52, [e52 K]), (53, [e53 K]), (54, [e54 K])]) (bodies := []) (loops := []) order tiOk ⟨one_ent (e19_ok K), one_ent (e20_ok K), one_ent (e49_ok K), one_ent (e52_ok K), one_ent (e53_ok K), one_ent (e54_ok K), trivial⟩ trivial Try.func17 rfl lp17 ⟨no_lent, trivial⟩
abbrev i17_0 : Fs := [(.dat (.sl (.pr (.int Go.IntKind.i64) (.pr (.int Go.IntKind.i64) (.int Go.IntKind.i64)))), false), (.own (.pr (.int Go.IntKind.i64) (.pr (.int Go.IntKind.i64) (.int Go.IntKind.i64))), false), (.own (.pr (.int Go.IntKind.i64) (.pr (.int Go.IntKind.i64) (.int Go.IntKind.i64))), true), (.dat (.int Go.IntKind.i64), true)]
noncomputable def implb17_0 (K : Nat) (rc : (List (Int × (Int × Int))) → (List (Int × (Int × Int))) → (List (Int × (Int × Int))) → Int → Option ((List (Int × (Int × Int))) × Int × Unit)) (x1 : (List (Int × (Int × Int)))) (x2 : (List (Int × (Int × Int)))) (x3 : (List (Int × (Int × Int)))) (x4 : Int) : Option ((List (Int × (Int × Int))) × Int × Unit) :=
  (bif decide (x4 < (↑x3.length : Int)) then (if (0 : Int) ≤ x4 ∧ x4 < (↑x3.length : Int) then (rc x1 x2 (x3.set x4.toNat ((x3.getD x4.toNat ((0 : Int), (0 : Int), (0 : Int))).1, (x3.getD x4.toNat ((0 : Int), (0 : Int), (0 : Int))).2.1, (-1 : Int))) (IntKind.i64.wrap (x4 + (1 : Int)))) else none) else some ((x3, x4, ())))
noncomputable def impll17_0 (K : Nat) : Nat → (List (Int × (Int × Int))) → (List (Int × (Int × Int))) → (List (Int × (Int × Int))) → Int → Option ((List (Int × (Int × Int))) × Int × Unit)
  | 0, _, _, _, _ => none
  | k + 1, x1, x2, x3, x4 => implb17_0 K (impll17_0 K k) x1 x2 x3 x4
noncomputable def n17_0 (K : Nat) : Lent := ⟨[0, 3, 4, 8], i17_0, [42, 43, 44, 45, 48, 49, 50, 51, 46, 47], [0], false, res17, fun x => impll17_0 K K x.1 x.2.1 x.2.2.1 x.2.2.2.1, []⟩
theorem q17_0 (K : Nat) (rc : (List (Int × (Int × Int))) → (List (Int × (Int × Int))) → (List (Int × (Int × Int))) → Int → Option ((List (Int × (Int × Int))) × Int × Unit)) (x1 : (List (Int × (Int × Int)))) (x2 : (List (Int × (Int × Int)))) (x3 : (List (Int × (Int × Int)))) (x4 : Int) : evLoop (L17_0 K) 3 17 Try.f17.results.toList (loopOf 0 (codeOf Try.f17)) 0 [0, 3, 4, 8] [] i17_0 [0] false res17 (fun x => rc x.1 x.2.1 x.2.2.1 x.2.2.2.1) (x1, x2, x3, x4, ()) = implb17_0 K rc x1 x2 x3 x4 := by kernel_rfl
theorem lp17_0 : loopsIn (loopOf 0 (codeOf Try.f17)) 0 = [] := by kernel_rfl
theorem n17_0_ok (K : Nat) : LentOk Try.prog Try.f17 (loopOf 0 (codeOf Try.f17)) (n17_0 K) := lentOk_k (slots := [0, 3, 4, 8]) (ali := []) (ins := i17_0) (writes := [42, 43, 44, 45, 48, 49, 50, 51, 46, 47]) (exits := [0]) (rets := false) (rs := res17) (lib17_0 K) lp17_0 trivial (by kernel_rfl) (by kernel_rfl) (by kernel_rfl) (by kernel_rfl) (by kernel_rfl) (fun k x => impll17_0 K k x.1 x.2.1 x.2.2.1 x.2.2.2.1) (fun _ => rfl) (fun k x => q17_0 K (impll17_0 K k) x.1 x.2.1 x.2.2.1 x.2.2.2.1) K
noncomputable def L17_1 (K : Nat) : Lib := mkLib ti [(19, [e19 K]), (20, [e20 K]), (49, [e49 K]), (52, [e52 K]), (53, [e53 K]), (54, [e54 K])] [] 17 [(0, [n17_0 K])]
theorem lib17_1 (K : Nat) : LibOk Try.prog (L17_1 K) := libOk_mk (ents := [(19, [e19 K]), (20, [e20 K]), (49, [e49 K]), (52, [e52 K]), (53, [e53 K]), (54, [e54 K])]) (bodies := []) (loops := [(0, [n17_0 K])]) order tiOk ⟨one_ent (e19_ok K), one_ent (e20_ok K), one_ent (e49_ok K), one_ent (e52_ok K), one_ent (e53_ok K), one_ent (e54_ok K), trivial⟩ trivial Try.func17 rfl lp17 ⟨one_lent (n17_0_ok K), trivial⟩
noncomputable def implf17 (K : Nat) (x1 : (List (Int × (Int × Int)))) : Option (Bool) :=
  (ob (implf19 K x1 []) fun y1 => (bif y1 then (ob (implf20 K) fun y2 => some (y2)) else (if ((List.replicate 0 ((0 : Int), (0 : Int), (0 : Int))).length + x1.length) * 24 ≤ 140737488355328 then (ob (implf52 K (List.replicate 0 ((0 : Int), (0 : Int), (0 : Int)) ++ x1)) fun y3 => (ob (implf53 K x1) fun y4 => (ob (implf49 K y3.1 y4.1) fun y5 => (bif !y5 then some (false) else (bif y3.2 != y4.2 then some (false) else (bif y3.2 == (0 : Int) then (ob (implf54 K x1 y3.1) fun y6 => (bif !y6 then some (false) else (ob (impll17_0 K K x1 (List.replicate 0 ((0 : Int), (0 : Int), (0 : Int)) ++ x1) y3.1 ((0 : Int))) fun y7 => (ob (implf49 K (List.replicate 0 ((0 : Int), (0 : Int), (0 : Int)) ++ x1) x1) fun y8 => (bif y8 then (ob (implf20 K) fun y9 => some (y9)) else some (false)))))) else (ob (impll17_0 K K x1 (List.replicate 0 ((0 : Int), (0 : Int), (0 : Int)) ++ x1) y3.1 ((0 : Int))) fun y10 => (ob (implf49 K (List.replicate 0 ((0 : Int), (0 : Int), (0 : Int)) ++ x1) x1) fun y11 => (bif y11 then (ob (implf20 K) fun y12 => some (y12)) else some (false)))))))))) else none)))
theorem q17 (K : Nat) (x1 : (List (Int × (Int × Int)))) : evFnK (α := Bool) (L17_1 K) 3 17 Try.f17.results.toList (codeOf Try.f17) ins17 res17 (fun p => p.1) (x1, ()) = implf17 K x1 := by kernel_rfl
noncomputable def e17 (K : Nat) : Ent := ⟨ins17, res17, Bool, fun x => implf17 K x.1, fun _ => (fun y => (y, (()))), false⟩
theorem e17_ok (K : Nat) : EntOk Try.prog 17 (e17 K) := entOk_k (ins := ins17) (rs := res17) (α := Bool) (lib17_1 K) (d := 3) Try.func17 rfl (by kernel_rfl) (by kernel_rfl) (by kernel_rfl) (fun x => implf17 K x.1) (fun p => p.1) (fun y => (y, (()))) (fun _ => rfl) (fun x => q17 K x.1)

/-! diaphone/diaphoneref04.Without -/
abbrev ins56 : Fs := [(.dat (.sl (.pr (.int .i64) (.pr (.int .i64) (.int .i64)))), false), (.dat (.int .i64), false)]
abbrev res56 : Sh := .cons (.own (.pr (.int .i64) (.pr (.int .i64) (.int .i64)))) (.cons (.dat (.int .i64)) (.un))
theorem lp56 : loopsIn (codeOf Try.f56) 0 = [] := by kernel_rfl
noncomputable def L56_0 (K : Nat) : Lib := mkLib ti [(76, [e76 K])] [] 56 []
theorem lib56_0 (K : Nat) : LibOk Try.prog (L56_0 K) := libOk_mk (ents := [(76, [e76 K])]) (bodies := []) (loops := []) order tiOk ⟨one_ent (e76_ok K), trivial⟩ trivial Try.func56 rfl lp56 trivial
noncomputable def implf56 (K : Nat) (x1 : (List (Int × (Int × Int)))) (x2 : Int) : Option ((List (Int × (Int × Int))) × Int) :=
  (ob (implf76 K x1 x2) fun y1 => (bif y1 != (0 : Int) then some (([], y1)) else (if (0 : Int) ≤ (0 : Int) ∧ (0 : Int) ≤ x2 ∧ x2 ≤ (↑x1.length : Int) then (if ((List.replicate 0 ((0 : Int), (0 : Int), (0 : Int))).length + (List.take x2.toNat x1).length) * 24 ≤ 140737488355328 then (if (0 : Int) ≤ IntKind.i64.wrap (x2 + (1 : Int)) ∧ IntKind.i64.wrap (x2 + (1 : Int)) ≤ (↑x1.length : Int) ∧ (↑x1.length : Int) ≤ (↑x1.length : Int) then (if ((List.replicate 0 ((0 : Int), (0 : Int), (0 : Int)) ++ List.take x2.toNat x1).length + (List.drop (IntKind.i64.wrap (x2 + (1 : Int))).toNat x1).length) * 24 ≤ 140737488355328 then some ((List.replicate 0 ((0 : Int), (0 : Int), (0 : Int)) ++ List.take x2.toNat x1 ++ List.drop (IntKind.i64.wrap (x2 + (1 : Int))).toNat x1, (0 : Int))) else none) else none) else none) else none)))
theorem q56 (K : Nat) (x1 : (List (Int × (Int × Int)))) (x2 : Int) : evFnK (α := (List (Int × (Int × Int))) × Int) (L56_0 K) 3 56 Try.f56.results.toList (codeOf Try.f56) ins56 res56 (fun p => (p.1.1, p.1.2.1)) (x1, x2, ()) = implf56 K x1 x2 := by kernel_rfl
noncomputable def e56 (K : Nat) : Ent := ⟨ins56, res56, (List (Int × (Int × Int))) × Int, fun x => implf56 K x.1 x.2.1, fun _ => (fun y => ((y.1, y.2, ()), (()))), false⟩
theorem e56_ok (K : Nat) : EntOk Try.prog 56 (e56 K) := entOk_k (ins := ins56) (rs := res56) (α := (List (Int × (Int × Int))) × Int) (lib56_0 K) (d := 3) Try.func56 rfl (by kernel_rfl) (by kernel_rfl) (by kernel_rfl) (fun x => implf56 K x.1 x.2.1) (fun p => (p.1.1, p.1.2.1)) (fun y => ((y.1, y.2, ()), (()))) (fun _ => rfl) (fun x => q56 K x.1 x.2.1)

end Go.Proofs.Ytbojnkcolamneaa
