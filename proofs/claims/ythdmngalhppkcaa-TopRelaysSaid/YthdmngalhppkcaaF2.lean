/- What the functions compute: printed by a program of this claim's author. -/
import Derived.Test.YthdmngalhppkcaaF1
set_option maxRecDepth 100000
set_option linter.unusedVariables false
set_option linter.unusedSimpArgs false
namespace Go.Proofs.Ythdmngalhppkcaa
open Go Go.Pv

/-! slices.IndexFunc[[]int,int] -/
abbrev ins87a : Fs := [(.dat (.sl (.int .i64)), false), (.fn 68 .un, false)]
abbrev res87a : Sh := .dat (.int .i64)
theorem lp87 : loopsIn (codeOf Try.f87) 0 = [(0, loopOf 0 (codeOf Try.f87))] := by kernel_rfl
noncomputable def L87a_0 (K : Nat) : Lib := mkLib ti [(61, [e61 K])] [(68, Try.f68), (86, Try.f86)] 87 []
theorem lib87a_0 (K : Nat) : LibOk Try.prog (L87a_0 K) := libOk_mk (ents := [(61, [e61 K])]) (bodies := [(68, Try.f68), (86, Try.f86)]) (loops := []) order tiOk ⟨one_ent (e61_ok K), trivial⟩ ⟨bod68, bod86, trivial⟩ Try.func87 rfl lp87 ⟨no_lent, trivial⟩
abbrev i87a_0 : Fs := [(.dat (.sl (.int Go.IntKind.i64)), false), (.fn 68 (.un), false), (.dat (.int Go.IntKind.i64), false), (.dat (.int Go.IntKind.i64), true)]
noncomputable def implb87a_0 (K : Nat) (rc : (List Int) → Unit → Int → Int → Option (Sum (Int × Unit) Int)) (x1 : (List Int)) (x2 : Unit) (x3 : Int) (x4 : Int) : Option (Sum (Int × Unit) Int) :=
  (bif decide (x4 < x3) then (if (0 : Int) ≤ x4 ∧ x4 < (↑x1.length : Int) then (ob (implf61 K (x1.getD x4.toNat ((0 : Int))) ((0 : Int)) ((3 : Int))) fun y1 => (bif !y1 then some (Sum.inr x4) else (rc x1 x2 x3 (IntKind.i64.wrap (x4 + (1 : Int)))))) else none) else some (Sum.inl (x4, ())))
noncomputable def impll87a_0 (K : Nat) : Nat → (List Int) → Unit → Int → Int → Option (Sum (Int × Unit) Int)
  | 0, _, _, _, _ => none
  | k + 1, x1, x2, x3, x4 => implb87a_0 K (impll87a_0 K k) x1 x2 x3 x4
noncomputable def n87a_0 (K : Nat) : Lent := ⟨[0, 1, 7, 8], i87a_0, [9, 10, 5, 11, 12, 13, 14, 15, 16, 17, 4, 18], [0], true, res87a, fun x => impll87a_0 K K x.1 x.2.1 x.2.2.1 x.2.2.2.1, [], none⟩
theorem q87a_0 (K : Nat) (rc : (List Int) → Unit → Int → Int → Option (Sum (Int × Unit) Int)) (x1 : (List Int)) (x2 : Unit) (x3 : Int) (x4 : Int) : evLoop (L87a_0 K) 3 87 Try.f87.results.toList (loopOf 0 (codeOf Try.f87)) 0 [0, 1, 7, 8] [] i87a_0 [0] true res87a (fun x => rc x.1 x.2.1 x.2.2.1 x.2.2.2.1) (x1, x2, x3, x4, ()) = implb87a_0 K rc x1 x2 x3 x4 := by kernel_rfl
theorem lp87a_0 : loopsIn (loopOf 0 (codeOf Try.f87)) 0 = [] := by kernel_rfl
theorem n87a_0_ok (K : Nat) : LentOk Try.prog Try.f87 (loopOf 0 (codeOf Try.f87)) (n87a_0 K) := lentOk_k (slots := [0, 1, 7, 8]) (ali := []) (ins := i87a_0) (writes := [9, 10, 5, 11, 12, 13, 14, 15, 16, 17, 4, 18]) (exits := [0]) (rets := true) (rs := res87a) (d := 3) (lib87a_0 K) lp87a_0 trivial (by kernel_rfl) (by kernel_rfl) (by kernel_rfl) (by kernel_rfl) (by kernel_rfl) (fun k x => impll87a_0 K k x.1 x.2.1 x.2.2.1 x.2.2.2.1) (fun _ => rfl) (fun k x => q87a_0 K (impll87a_0 K k) x.1 x.2.1 x.2.2.1 x.2.2.2.1) K
noncomputable def L87a_1 (K : Nat) : Lib := mkLib ti [(61, [e61 K])] [(68, Try.f68), (86, Try.f86)] 87 [(0, [n87a_0 K])]
theorem lib87a_1 (K : Nat) : LibOk Try.prog (L87a_1 K) := libOk_mk (ents := [(61, [e61 K])]) (bodies := [(68, Try.f68), (86, Try.f86)]) (loops := [(0, [n87a_0 K])]) order tiOk ⟨one_ent (e61_ok K), trivial⟩ ⟨bod68, bod86, trivial⟩ Try.func87 rfl lp87 ⟨one_lent (n87a_0_ok K), trivial⟩
noncomputable def implf87a (K : Nat) (x1 : (List Int)) (x2 : Unit) : Option (Int) :=
  (ob (impll87a_0 K K x1 () ((↑x1.length : Int)) ((0 : Int))) fun y1 => (match y1 with | .inl y2 => some ((-1 : Int)) | .inr y2 => some (y2)))
theorem q87a (K : Nat) (x1 : (List Int)) (x2 : Unit) : evFnK (α := Int) (L87a_1 K) 3 87 Try.f87.results.toList (codeOf Try.f87) ins87a res87a (fun p => p.1) (x1, x2, ()) = implf87a K x1 x2 := by kernel_rfl
noncomputable def e87a (K : Nat) : Ent := ⟨ins87a, res87a, Int, fun x => implf87a K x.1 x.2.1, fun _ => (fun y => (y, (()))), false⟩
theorem e87a_ok (K : Nat) : EntOk Try.prog 87 (e87a K) := entOk_k (ins := ins87a) (rs := res87a) (α := Int) (lib87a_1 K) (d := 3) Try.func87 rfl (by kernel_rfl) (by kernel_rfl) (by kernel_rfl) (fun x => implf87a K x.1 x.2.1) (fun p => p.1) (fun y => (y, (()))) (fun _ => rfl) (fun x => q87a K x.1 x.2.1)

abbrev ins87b : Fs := [(.dat (.sl (.int .i64)), false), (.fn 86 .un, false)]
abbrev res87b : Sh := .dat (.int .i64)
noncomputable def L87b_0 (K : Nat) : Lib := mkLib ti [(61, [e61 K])] [(68, Try.f68), (86, Try.f86)] 87 []
theorem lib87b_0 (K : Nat) : LibOk Try.prog (L87b_0 K) := libOk_mk (ents := [(61, [e61 K])]) (bodies := [(68, Try.f68), (86, Try.f86)]) (loops := []) order tiOk ⟨one_ent (e61_ok K), trivial⟩ ⟨bod68, bod86, trivial⟩ Try.func87 rfl lp87 ⟨no_lent, trivial⟩
abbrev i87b_0 : Fs := [(.dat (.sl (.int Go.IntKind.i64)), false), (.fn 86 (.un), false), (.dat (.int Go.IntKind.i64), false), (.dat (.int Go.IntKind.i64), true)]
noncomputable def implb87b_0 (K : Nat) (rc : (List Int) → Unit → Int → Int → Option (Sum (Int × Unit) Int)) (x1 : (List Int)) (x2 : Unit) (x3 : Int) (x4 : Int) : Option (Sum (Int × Unit) Int) :=
  (bif decide (x4 < x3) then (if (0 : Int) ≤ x4 ∧ x4 < (↑x1.length : Int) then (ob (implf61 K (x1.getD x4.toNat ((0 : Int))) ((0 : Int)) ((1 : Int))) fun y1 => (bif !y1 then some (Sum.inr x4) else (rc x1 x2 x3 (IntKind.i64.wrap (x4 + (1 : Int)))))) else none) else some (Sum.inl (x4, ())))
noncomputable def impll87b_0 (K : Nat) : Nat → (List Int) → Unit → Int → Int → Option (Sum (Int × Unit) Int)
  | 0, _, _, _, _ => none
  | k + 1, x1, x2, x3, x4 => implb87b_0 K (impll87b_0 K k) x1 x2 x3 x4
noncomputable def n87b_0 (K : Nat) : Lent := ⟨[0, 1, 7, 8], i87b_0, [9, 10, 5, 11, 12, 13, 14, 15, 16, 17, 4, 18], [0], true, res87b, fun x => impll87b_0 K K x.1 x.2.1 x.2.2.1 x.2.2.2.1, [], none⟩
theorem q87b_0 (K : Nat) (rc : (List Int) → Unit → Int → Int → Option (Sum (Int × Unit) Int)) (x1 : (List Int)) (x2 : Unit) (x3 : Int) (x4 : Int) : evLoop (L87b_0 K) 3 87 Try.f87.results.toList (loopOf 0 (codeOf Try.f87)) 0 [0, 1, 7, 8] [] i87b_0 [0] true res87b (fun x => rc x.1 x.2.1 x.2.2.1 x.2.2.2.1) (x1, x2, x3, x4, ()) = implb87b_0 K rc x1 x2 x3 x4 := by kernel_rfl
theorem lp87b_0 : loopsIn (loopOf 0 (codeOf Try.f87)) 0 = [] := by kernel_rfl
theorem n87b_0_ok (K : Nat) : LentOk Try.prog Try.f87 (loopOf 0 (codeOf Try.f87)) (n87b_0 K) := lentOk_k (slots := [0, 1, 7, 8]) (ali := []) (ins := i87b_0) (writes := [9, 10, 5, 11, 12, 13, 14, 15, 16, 17, 4, 18]) (exits := [0]) (rets := true) (rs := res87b) (d := 3) (lib87b_0 K) lp87b_0 trivial (by kernel_rfl) (by kernel_rfl) (by kernel_rfl) (by kernel_rfl) (by kernel_rfl) (fun k x => impll87b_0 K k x.1 x.2.1 x.2.2.1 x.2.2.2.1) (fun _ => rfl) (fun k x => q87b_0 K (impll87b_0 K k) x.1 x.2.1 x.2.2.1 x.2.2.2.1) K
noncomputable def L87b_1 (K : Nat) : Lib := mkLib ti [(61, [e61 K])] [(68, Try.f68), (86, Try.f86)] 87 [(0, [n87b_0 K])]
theorem lib87b_1 (K : Nat) : LibOk Try.prog (L87b_1 K) := libOk_mk (ents := [(61, [e61 K])]) (bodies := [(68, Try.f68), (86, Try.f86)]) (loops := [(0, [n87b_0 K])]) order tiOk ⟨one_ent (e61_ok K), trivial⟩ ⟨bod68, bod86, trivial⟩ Try.func87 rfl lp87 ⟨one_lent (n87b_0_ok K), trivial⟩
noncomputable def implf87b (K : Nat) (x1 : (List Int)) (x2 : Unit) : Option (Int) :=
  (ob (impll87b_0 K K x1 () ((↑x1.length : Int)) ((0 : Int))) fun y1 => (match y1 with | .inl y2 => some ((-1 : Int)) | .inr y2 => some (y2)))
theorem q87b (K : Nat) (x1 : (List Int)) (x2 : Unit) : evFnK (α := Int) (L87b_1 K) 3 87 Try.f87.results.toList (codeOf Try.f87) ins87b res87b (fun p => p.1) (x1, x2, ()) = implf87b K x1 x2 := by kernel_rfl
noncomputable def e87b (K : Nat) : Ent := ⟨ins87b, res87b, Int, fun x => implf87b K x.1 x.2.1, fun _ => (fun y => (y, (()))), false⟩
theorem e87b_ok (K : Nat) : EntOk Try.prog 87 (e87b K) := entOk_k (ins := ins87b) (rs := res87b) (α := Int) (lib87b_1 K) (d := 3) Try.func87 rfl (by kernel_rfl) (by kernel_rfl) (by kernel_rfl) (fun x => implf87b K x.1 x.2.1) (fun p => p.1) (fun y => (y, (()))) (fun _ => rfl) (fun x => q87b K x.1 x.2.1)

/-! diaphone/relay.worded -/
abbrev ins63 : Fs := [(.dat (.pr (.sl (.arr 2 (.int .i64))) (.sl (.int .i64))), false), (.dat (.sl (.int .i64)), false)]
abbrev res63 : Sh := .dat (.int .i64)
theorem lp63 : loopsIn (codeOf Try.f63) 0 = [] := by kernel_rfl
noncomputable def L63_0 (K : Nat) : Lib := mkLib ti [(30, [e30 K]), (87, [e87a K, e87b K]), (61, [e61 K])] [(67, Try.f67), (86, Try.f86)] 63 []
theorem lib63_0 (K : Nat) : LibOk Try.prog (L63_0 K) := libOk_mk (ents := [(30, [e30 K]), (87, [e87a K, e87b K]), (61, [e61 K])]) (bodies := [(67, Try.f67), (86, Try.f86)]) (loops := []) order tiOk ⟨one_ent (e30_ok K), more_ent (e87a_ok K) (one_ent (e87b_ok K)), one_ent (e61_ok K), trivial⟩ ⟨bod67, bod86, trivial⟩ Try.func63 rfl lp63 trivial
noncomputable def implf63 (K : Nat) (x1 : ((List (List Int)) × (List Int))) (x2 : (List Int)) : Option (Int) :=
  (ob (implf30 K x1) fun y1 => (bif y1 != (0 : Int) then some (y1) else (bif decide ((↑x2.length : Int) > (40 : Int)) then some ((3 : Int)) else (ob (implf87b K x2 ()) fun y2 => (bif decide (y2 ≥ (0 : Int)) then some ((1 : Int)) else some ((0 : Int)))))))
theorem q63 (K : Nat) (x1 : ((List (List Int)) × (List Int))) (x2 : (List Int)) : evFnK (α := Int) (L63_0 K) 3 63 Try.f63.results.toList (codeOf Try.f63) ins63 res63 (fun p => p.1) (x1, x2, ()) = implf63 K x1 x2 := by kernel_rfl
noncomputable def e63 (K : Nat) : Ent := ⟨ins63, res63, Int, fun x => implf63 K x.1 x.2.1, fun _ => (fun y => (y, (()))), false⟩
theorem e63_ok (K : Nat) : EntOk Try.prog 63 (e63 K) := entOk_k (ins := ins63) (rs := res63) (α := Int) (lib63_0 K) (d := 3) Try.func63 rfl (by kernel_rfl) (by kernel_rfl) (by kernel_rfl) (fun x => implf63 K x.1 x.2.1) (fun p => p.1) (fun y => (y, (()))) (fun _ => rfl) (fun x => q63 K x.1 x.2.1)

/-! diaphone/relay.Run -/
abbrev ins26 : Fs := [(.dat (.pr (.sl (.arr 2 (.int .i64))) (.sl (.int .i64))), false), (.dat (.sl (.int .i64)), false)]
abbrev res26 : Sh := .cons (.own (.int .i64)) (.cons (.dat (.int .i64)) (.un))
theorem lp26 : loopsIn (codeOf Try.f26) 0 = [(0, loopOf 0 (codeOf Try.f26))] := by kernel_rfl
noncomputable def L26_0 (K : Nat) : Lib := mkLib ti [(63, [e63 K])] [] 26 []
theorem lib26_0 (K : Nat) : LibOk Try.prog (L26_0 K) := libOk_mk (ents := [(63, [e63 K])]) (bodies := []) (loops := []) order tiOk ⟨one_ent (e63_ok K), trivial⟩ trivial Try.func26 rfl lp26 ⟨no_lent, trivial⟩
abbrev i26_0 : Fs := [(.box (.dat (.pr (.sl (.arr 2 (.int Go.IntKind.i64))) (.sl (.int Go.IntKind.i64)))), false), (.dat (.int Go.IntKind.i64), true), (.own (.int Go.IntKind.i64), true), (.dat (.sl (.int Go.IntKind.i64)), false), (.dat (.int Go.IntKind.i64), false), (.dat (.int Go.IntKind.i64), true)]
noncomputable def implb26_0 (K : Nat) (rc : ((List (List Int)) × (List Int)) → Int → (List Int) → (List Int) → Int → Int → Option (Int × (List Int) × Int × Unit)) (x1 : ((List (List Int)) × (List Int))) (x2 : Int) (x3 : (List Int)) (x4 : (List Int)) (x5 : Int) (x6 : Int) : Option (Int × (List Int) × Int × Unit) :=
  (bif decide (x6 < x5) then (if (0 : Int) ≤ x6 ∧ x6 < (↑x4.length : Int) then (if (0 : Int) ≤ x2 ∧ x2 < (↑x1.1.length : Int) then (if (0 : Int) ≤ x4.getD x6.toNat ((0 : Int)) ∧ x4.getD x6.toNat ((0 : Int)) < (2 : Int) then (if (0 : Int) ≤ (x1.1.getD x2.toNat (List.replicate 2 ((0 : Int)))).getD (x4.getD x6.toNat ((0 : Int))).toNat ((0 : Int)) ∧ (x1.1.getD x2.toNat (List.replicate 2 ((0 : Int)))).getD (x4.getD x6.toNat ((0 : Int))).toNat ((0 : Int)) < (↑x1.2.length : Int) then (if (x3.length + ((List.replicate 1 ((0 : Int))).set 0 (x1.2.getD ((x1.1.getD x2.toNat (List.replicate 2 ((0 : Int)))).getD (x4.getD x6.toNat ((0 : Int))).toNat ((0 : Int))).toNat ((0 : Int)))).length) * 8 ≤ 140737488355328 then (rc x1 ((x1.1.getD x2.toNat (List.replicate 2 ((0 : Int)))).getD (x4.getD x6.toNat ((0 : Int))).toNat ((0 : Int))) (x3 ++ (List.replicate 1 ((0 : Int))).set 0 (x1.2.getD ((x1.1.getD x2.toNat (List.replicate 2 ((0 : Int)))).getD (x4.getD x6.toNat ((0 : Int))).toNat ((0 : Int))).toNat ((0 : Int)))) x4 x5 (IntKind.i64.wrap (x6 + (1 : Int)))) else none) else none) else none) else none) else none) else some ((x2, x3, x6, ())))
noncomputable def impll26_0 (K : Nat) : Nat → ((List (List Int)) × (List Int)) → Int → (List Int) → (List Int) → Int → Int → Option (Int × (List Int) × Int × Unit)
  | 0, _, _, _, _, _, _ => none
  | k + 1, x1, x2, x3, x4, x5, x6 => implb26_0 K (impll26_0 K k) x1 x2 x3 x4 x5 x6
noncomputable def n26_0 (K : Nat) : Lent := ⟨[2, 7, 8, 22, 23, 24], i26_0, [25, 26, 27, 10, 28, 29, 30, 31, 32, 33, 34, 35, 36, 37, 38, 39, 40, 41, 42, 43], [0], false, res26, fun x => impll26_0 K K x.1 x.2.1 x.2.2.1 x.2.2.2.1 x.2.2.2.2.1 x.2.2.2.2.2.1, [], none⟩
theorem q26_0 (K : Nat) (rc : ((List (List Int)) × (List Int)) → Int → (List Int) → (List Int) → Int → Int → Option (Int × (List Int) × Int × Unit)) (x1 : ((List (List Int)) × (List Int))) (x2 : Int) (x3 : (List Int)) (x4 : (List Int)) (x5 : Int) (x6 : Int) : evLoop (L26_0 K) 3 26 Try.f26.results.toList (loopOf 0 (codeOf Try.f26)) 0 [2, 7, 8, 22, 23, 24] [] i26_0 [0] false res26 (fun x => rc x.1 x.2.1 x.2.2.1 x.2.2.2.1 x.2.2.2.2.1 x.2.2.2.2.2.1) (x1, x2, x3, x4, x5, x6, ()) = implb26_0 K rc x1 x2 x3 x4 x5 x6 := by kernel_rfl
theorem lp26_0 : loopsIn (loopOf 0 (codeOf Try.f26)) 0 = [] := by kernel_rfl
theorem n26_0_ok (K : Nat) : LentOk Try.prog Try.f26 (loopOf 0 (codeOf Try.f26)) (n26_0 K) := lentOk_k (slots := [2, 7, 8, 22, 23, 24]) (ali := []) (ins := i26_0) (writes := [25, 26, 27, 10, 28, 29, 30, 31, 32, 33, 34, 35, 36, 37, 38, 39, 40, 41, 42, 43]) (exits := [0]) (rets := false) (rs := res26) (d := 3) (lib26_0 K) lp26_0 trivial (by kernel_rfl) (by kernel_rfl) (by kernel_rfl) (by kernel_rfl) (by kernel_rfl) (fun k x => impll26_0 K k x.1 x.2.1 x.2.2.1 x.2.2.2.1 x.2.2.2.2.1 x.2.2.2.2.2.1) (fun _ => rfl) (fun k x => q26_0 K (impll26_0 K k) x.1 x.2.1 x.2.2.1 x.2.2.2.1 x.2.2.2.2.1 x.2.2.2.2.2.1) K
noncomputable def L26_1 (K : Nat) : Lib := mkLib ti [(63, [e63 K])] [] 26 [(0, [n26_0 K])]
theorem lib26_1 (K : Nat) : LibOk Try.prog (L26_1 K) := libOk_mk (ents := [(63, [e63 K])]) (bodies := []) (loops := [(0, [n26_0 K])]) order tiOk ⟨one_ent (e63_ok K), trivial⟩ trivial Try.func26 rfl lp26 ⟨one_lent (n26_0_ok K), trivial⟩
noncomputable def implf26 (K : Nat) (x1 : ((List (List Int)) × (List Int))) (x2 : (List Int)) : Option ((List Int) × Int) :=
  (ob (implf63 K x1 x2) fun y1 => (bif y1 != (0 : Int) then some (([], y1)) else (if (0 : Int) ≤ (0 : Int) ∧ (0 : Int) < (↑x1.2.length : Int) then (ob (impll26_0 K K x1 ((0 : Int)) ((List.replicate 1 ((0 : Int))).set 0 (x1.2.getD (0) ((0 : Int)))) x2 ((↑x2.length : Int)) ((0 : Int))) fun y2 => some ((y2.2.1, (0 : Int)))) else none)))
theorem q26 (K : Nat) (x1 : ((List (List Int)) × (List Int))) (x2 : (List Int)) : evFnK (α := (List Int) × Int) (L26_1 K) 3 26 Try.f26.results.toList (codeOf Try.f26) ins26 res26 (fun p => (p.1.1, p.1.2.1)) (x1, x2, ()) = implf26 K x1 x2 := by kernel_rfl
noncomputable def e26 (K : Nat) : Ent := ⟨ins26, res26, (List Int) × Int, fun x => implf26 K x.1 x.2.1, fun _ => (fun y => ((y.1, y.2, ()), (()))), false⟩
theorem e26_ok (K : Nat) : EntOk Try.prog 26 (e26 K) := entOk_k (ins := ins26) (rs := res26) (α := (List Int) × Int) (lib26_1 K) (d := 3) Try.func26 rfl (by kernel_rfl) (by kernel_rfl) (by kernel_rfl) (fun x => implf26 K x.1 x.2.1) (fun p => (p.1.1, p.1.2.1)) (fun y => ((y.1, y.2, ()), (()))) (fun _ => rfl) (fun x => q26 K x.1 x.2.1)

/-! diaphone/relay.Sync -/
abbrev ins46 : Fs := [(.dat (.pr (.sl (.arr 2 (.int .i64))) (.sl (.int .i64))), false)]
abbrev res46 : Sh := .cons (.dat (.sl (.int .i64))) (.cons (.dat (.bool)) (.cons (.dat (.int .i64)) (.un)))
theorem lp46 : loopsIn (codeOf Try.f46) 0 = [(0, loopOf 0 (codeOf Try.f46)), (2, loopOf 2 (codeOf Try.f46)), (4, loopOf 4 (codeOf Try.f46))] := by kernel_rfl
noncomputable def L46_0 (K : Nat) : Lib := mkLib ti [(30, [e30 K]), (66, [e66 K])] [] 46 []
theorem lib46_0 (K : Nat) : LibOk Try.prog (L46_0 K) := libOk_mk (ents := [(30, [e30 K]), (66, [e66 K])]) (bodies := []) (loops := []) order tiOk ⟨one_ent (e30_ok K), one_ent (e66_ok K), trivial⟩ trivial Try.func46 rfl lp46 ⟨no_lent, no_lent, no_lent, trivial⟩
abbrev i46_0 : Fs := [(.box (.dat (.pr (.sl (.arr 2 (.int Go.IntKind.i64))) (.sl (.int Go.IntKind.i64)))), false), (.own (.pr (.int Go.IntKind.u64) (.sl (.int Go.IntKind.i64))), true), (.map (.int Go.IntKind.u64) (.bool), true)]
abbrev i46_2 : Fs := [(.box (.dat (.pr (.sl (.arr 2 (.int Go.IntKind.i64))) (.sl (.int Go.IntKind.i64)))), false), (.own (.pr (.int Go.IntKind.u64) (.sl (.int Go.IntKind.i64))), true), (.map (.int Go.IntKind.u64) (.bool), true), (.box (.dat (.pr (.int Go.IntKind.u64) (.sl (.int Go.IntKind.i64)))), false), (.dat (.int Go.IntKind.i64), true)]
abbrev i46_4 : Fs := [(.box (.dat (.pr (.sl (.arr 2 (.int Go.IntKind.i64))) (.sl (.int Go.IntKind.i64)))), false), (.own (.pr (.int Go.IntKind.u64) (.sl (.int Go.IntKind.i64))), false), (.map (.int Go.IntKind.u64) (.bool), false), (.box (.dat (.pr (.int Go.IntKind.u64) (.sl (.int Go.IntKind.i64)))), false), (.dat (.int Go.IntKind.i64), false), (.dat (.int Go.IntKind.u64), true), (.dat (.int Go.IntKind.i64), false), (.dat (.sl (.arr 2 (.int Go.IntKind.i64))), false), (.dat (.int Go.IntKind.i64), false), (.dat (.int Go.IntKind.i64), true)]
noncomputable def implb46_4 (K : Nat) (rc : ((List (List Int)) × (List Int)) → (List (Int × (List Int))) → (List (Int × Bool)) → (Int × (List Int)) → Int → Int → Int → (List (List Int)) → Int → Int → Option (Int × Int × Unit)) (x1 : ((List (List Int)) × (List Int))) (x2 : (List (Int × (List Int)))) (x3 : (List (Int × Bool))) (x4 : (Int × (List Int))) (x5 : Int) (x6 : Int) (x7 : Int) (x8 : (List (List Int))) (x9 : Int) (x10 : Int) : Option (Int × Int × Unit) :=
  (bif decide (x10 < x9) then (if (0 : Int) ≤ x10 ∧ x10 < (↑x8.length : Int) then (if x10 < (0 : Int) then none else (bif IntKind.u64.wrap (↑(BitVec.ofInt IntKind.u64.bits (x4.1.fdiv ((2 : Int) ^ min x10.toNat IntKind.u64.bits)) &&& BitVec.ofInt IntKind.u64.bits (1 : Int)).toNat : Int) == (1 : Int) then (if (0 : Int) ≤ x5 ∧ x5 < (2 : Int) then (if (x8.getD x10.toNat (List.replicate 2 ((0 : Int)))).getD x5.toNat ((0 : Int)) < (0 : Int) then none else (rc x1 x2 x3 x4 x5 (IntKind.u64.wrap (↑(BitVec.ofInt IntKind.u64.bits x6 ||| BitVec.ofInt IntKind.u64.bits (IntKind.u64.wrap ((1 : Int) * (2 : Int) ^ min ((x8.getD x10.toNat (List.replicate 2 ((0 : Int)))).getD x5.toNat ((0 : Int))).toNat IntKind.u64.bits))).toNat : Int)) x7 x8 x9 (IntKind.i64.wrap (x10 + (1 : Int))))) else none) else (rc x1 x2 x3 x4 x5 x6 x7 x8 x9 (IntKind.i64.wrap (x10 + (1 : Int)))))) else none) else some ((x6, x10, ())))
noncomputable def impll46_4 (K : Nat) : Nat → ((List (List Int)) × (List Int)) → (List (Int × (List Int))) → (List (Int × Bool)) → (Int × (List Int)) → Int → Int → Int → (List (List Int)) → Int → Int → Option (Int × Int × Unit)
  | 0, _, _, _, _, _, _, _, _, _, _ => none
  | k + 1, x1, x2, x3, x4, x5, x6, x7, x8, x9, x10 => implb46_4 K (impll46_4 K k) x1 x2 x3 x4 x5 x6 x7 x8 x9 x10
noncomputable def n46_4 (K : Nat) : Lent := ⟨[1, 7, 8, 9, 10, 11, 47, 51, 52, 53], i46_4, [54, 55, 56, 57, 13, 12, 58, 59, 60, 61, 62, 63, 64, 65, 66, 67, 68, 69, 70], [4], false, res46, fun x => impll46_4 K K x.1 x.2.1 x.2.2.1 x.2.2.2.1 x.2.2.2.2.1 x.2.2.2.2.2.1 x.2.2.2.2.2.2.1 x.2.2.2.2.2.2.2.1 x.2.2.2.2.2.2.2.2.1 x.2.2.2.2.2.2.2.2.2.1, [], none⟩
theorem q46_4 (K : Nat) (rc : ((List (List Int)) × (List Int)) → (List (Int × (List Int))) → (List (Int × Bool)) → (Int × (List Int)) → Int → Int → Int → (List (List Int)) → Int → Int → Option (Int × Int × Unit)) (x1 : ((List (List Int)) × (List Int))) (x2 : (List (Int × (List Int)))) (x3 : (List (Int × Bool))) (x4 : (Int × (List Int))) (x5 : Int) (x6 : Int) (x7 : Int) (x8 : (List (List Int))) (x9 : Int) (x10 : Int) : evLoop (L46_0 K) 3 46 Try.f46.results.toList (loopOf 4 (codeOf Try.f46)) 4 [1, 7, 8, 9, 10, 11, 47, 51, 52, 53] [] i46_4 [4] false res46 (fun x => rc x.1 x.2.1 x.2.2.1 x.2.2.2.1 x.2.2.2.2.1 x.2.2.2.2.2.1 x.2.2.2.2.2.2.1 x.2.2.2.2.2.2.2.1 x.2.2.2.2.2.2.2.2.1 x.2.2.2.2.2.2.2.2.2.1) (x1, x2, x3, x4, x5, x6, x7, x8, x9, x10, ()) = implb46_4 K rc x1 x2 x3 x4 x5 x6 x7 x8 x9 x10 := by kernel_rfl
theorem lp46_4 : loopsIn (loopOf 4 (codeOf Try.f46)) 4 = [] := by kernel_rfl
theorem n46_4_ok (K : Nat) : LentOk Try.prog Try.f46 (loopOf 4 (codeOf Try.f46)) (n46_4 K) := lentOk_k (slots := [1, 7, 8, 9, 10, 11, 47, 51, 52, 53]) (ali := []) (ins := i46_4) (writes := [54, 55, 56, 57, 13, 12, 58, 59, 60, 61, 62, 63, 64, 65, 66, 67, 68, 69, 70]) (exits := [4]) (rets := false) (rs := res46) (d := 3) (lib46_0 K) lp46_4 trivial (by kernel_rfl) (by kernel_rfl) (by kernel_rfl) (by kernel_rfl) (by kernel_rfl) (fun k x => impll46_4 K k x.1 x.2.1 x.2.2.1 x.2.2.2.1 x.2.2.2.2.1 x.2.2.2.2.2.1 x.2.2.2.2.2.2.1 x.2.2.2.2.2.2.2.1 x.2.2.2.2.2.2.2.2.1 x.2.2.2.2.2.2.2.2.2.1) (fun _ => rfl) (fun k x => q46_4 K (impll46_4 K k) x.1 x.2.1 x.2.2.1 x.2.2.2.1 x.2.2.2.2.1 x.2.2.2.2.2.1 x.2.2.2.2.2.2.1 x.2.2.2.2.2.2.2.1 x.2.2.2.2.2.2.2.2.1 x.2.2.2.2.2.2.2.2.2.1) K
noncomputable def L46_1 (K : Nat) : Lib := mkLib ti [(30, [e30 K]), (66, [e66 K])] [] 46 [(4, [n46_4 K])]
theorem lib46_1 (K : Nat) : LibOk Try.prog (L46_1 K) := libOk_mk (ents := [(30, [e30 K]), (66, [e66 K])]) (bodies := []) (loops := [(4, [n46_4 K])]) order tiOk ⟨one_ent (e30_ok K), one_ent (e66_ok K), trivial⟩ trivial Try.func46 rfl lp46 ⟨no_lent, no_lent, one_lent (n46_4_ok K), trivial⟩
noncomputable def implb46_2 (K : Nat) (rc : ((List (List Int)) × (List Int)) → (List (Int × (List Int))) → (List (Int × Bool)) → (Int × (List Int)) → Int → Option ((List (Int × (List Int))) × (List (Int × Bool)) × Int × Unit)) (x1 : ((List (List Int)) × (List Int))) (x2 : (List (Int × (List Int)))) (x3 : (List (Int × Bool))) (x4 : (Int × (List Int))) (x5 : Int) : Option ((List (Int × (List Int))) × (List (Int × Bool)) × Int × Unit) :=
  (bif decide (x5 < (2 : Int)) then (ob (impll46_4 K K x1 x2 x3 x4 x5 ((0 : Int)) x5 x1.1 ((↑x1.1.length : Int)) ((0 : Int))) fun y1 => (bif !(mget (Ty.int IntKind.u64) Ty.bool x3 y1.1).getD false then (ob (implf66 K x4.2) fun y2 => (if (y2.length + ((List.replicate 1 ((0 : Int))).set 0 x5).length) * 8 ≤ 140737488355328 then (if (x2.length + ((List.replicate 1 ((0 : Int), [])).set 0 (y1.1, y2 ++ (List.replicate 1 ((0 : Int))).set 0 x5)).length) * 32 ≤ 140737488355328 then (rc x1 (x2 ++ (List.replicate 1 ((0 : Int), [])).set 0 (y1.1, y2 ++ (List.replicate 1 ((0 : Int))).set 0 x5)) (mset (Ty.int IntKind.u64) Ty.bool x3 y1.1 true) x4 (IntKind.i64.wrap (x5 + (1 : Int)))) else none) else none)) else (rc x1 x2 x3 x4 (IntKind.i64.wrap (x5 + (1 : Int)))))) else some ((x2, x3, x5, ())))
noncomputable def impll46_2 (K : Nat) : Nat → ((List (List Int)) × (List Int)) → (List (Int × (List Int))) → (List (Int × Bool)) → (Int × (List Int)) → Int → Option ((List (Int × (List Int))) × (List (Int × Bool)) × Int × Unit)
  | 0, _, _, _, _, _ => none
  | k + 1, x1, x2, x3, x4, x5 => implb46_2 K (impll46_2 K k) x1 x2 x3 x4 x5
noncomputable def n46_2 (K : Nat) : Lent := ⟨[1, 7, 8, 9, 47], i46_2, [48, 49, 10, 11, 50, 51, 52, 53, 54, 55, 56, 57, 13, 12, 58, 59, 60, 61, 62, 63, 64, 65, 66, 67, 68, 69, 70, 71, 72, 73, 74, 75, 76, 77, 78, 79, 80, 81, 82, 83, 84, 85, 86, 87, 88], [2], false, res46, fun x => impll46_2 K K x.1 x.2.1 x.2.2.1 x.2.2.2.1 x.2.2.2.2.1, [], none⟩
theorem q46_2 (K : Nat) (rc : ((List (List Int)) × (List Int)) → (List (Int × (List Int))) → (List (Int × Bool)) → (Int × (List Int)) → Int → Option ((List (Int × (List Int))) × (List (Int × Bool)) × Int × Unit)) (x1 : ((List (List Int)) × (List Int))) (x2 : (List (Int × (List Int)))) (x3 : (List (Int × Bool))) (x4 : (Int × (List Int))) (x5 : Int) : evLoop (L46_1 K) 3 46 Try.f46.results.toList (loopOf 2 (codeOf Try.f46)) 2 [1, 7, 8, 9, 47] [] i46_2 [2] false res46 (fun x => rc x.1 x.2.1 x.2.2.1 x.2.2.2.1 x.2.2.2.2.1) (x1, x2, x3, x4, x5, ()) = implb46_2 K rc x1 x2 x3 x4 x5 := by kernel_rfl
theorem lp46_2 : loopsIn (loopOf 2 (codeOf Try.f46)) 2 = [(4, loopOf 4 (codeOf Try.f46))] := by kernel_rfl
theorem n46_2_ok (K : Nat) : LentOk Try.prog Try.f46 (loopOf 2 (codeOf Try.f46)) (n46_2 K) := lentOk_k (slots := [1, 7, 8, 9, 47]) (ali := []) (ins := i46_2) (writes := [48, 49, 10, 11, 50, 51, 52, 53, 54, 55, 56, 57, 13, 12, 58, 59, 60, 61, 62, 63, 64, 65, 66, 67, 68, 69, 70, 71, 72, 73, 74, 75, 76, 77, 78, 79, 80, 81, 82, 83, 84, 85, 86, 87, 88]) (exits := [2]) (rets := false) (rs := res46) (d := 3) (lib46_1 K) lp46_2 ⟨one_lent (n46_4_ok K), trivial⟩ (by kernel_rfl) (by kernel_rfl) (by kernel_rfl) (by kernel_rfl) (by kernel_rfl) (fun k x => impll46_2 K k x.1 x.2.1 x.2.2.1 x.2.2.2.1 x.2.2.2.2.1) (fun _ => rfl) (fun k x => q46_2 K (impll46_2 K k) x.1 x.2.1 x.2.2.1 x.2.2.2.1 x.2.2.2.2.1) K
noncomputable def L46_2 (K : Nat) : Lib := mkLib ti [(30, [e30 K]), (66, [e66 K])] [] 46 [(4, [n46_4 K]), (2, [n46_2 K])]
theorem lib46_2 (K : Nat) : LibOk Try.prog (L46_2 K) := libOk_mk (ents := [(30, [e30 K]), (66, [e66 K])]) (bodies := []) (loops := [(4, [n46_4 K]), (2, [n46_2 K])]) order tiOk ⟨one_ent (e30_ok K), one_ent (e66_ok K), trivial⟩ trivial Try.func46 rfl lp46 ⟨no_lent, one_lent (n46_2_ok K), one_lent (n46_4_ok K), trivial⟩
noncomputable def implb46_0 (K : Nat) (rc : ((List (List Int)) × (List Int)) → (List (Int × (List Int))) → (List (Int × Bool)) → Option (Sum ((List (Int × (List Int))) × (List (Int × Bool)) × Unit) ((List Int) × Bool × Int × Unit))) (x1 : ((List (List Int)) × (List Int))) (x2 : (List (Int × (List Int)))) (x3 : (List (Int × Bool))) : Option (Sum ((List (Int × (List Int))) × (List (Int × Bool)) × Unit) ((List Int) × Bool × Int × Unit)) :=
  (bif decide ((↑x2.length : Int) > (0 : Int)) then (if (0 : Int) ≤ (0 : Int) ∧ (0 : Int) < (↑x2.length : Int) then (if (0 : Int) ≤ (1 : Int) ∧ (1 : Int) ≤ (↑x2.length : Int) ∧ (↑x2.length : Int) ≤ (↑x2.length : Int) then (bif IntKind.u64.wrap (↑(BitVec.ofInt IntKind.u64.bits (x2.getD (0) ((0 : Int), [])).1 &&& BitVec.ofInt IntKind.u64.bits (IntKind.u64.wrap ((x2.getD (0) ((0 : Int), [])).1 - (1 : Int)))).toNat : Int) == (0 : Int) then some (Sum.inr ((x2.getD (0) ((0 : Int), [])).2, true, (0 : Int), ())) else (ob (impll46_2 K K x1 (List.drop (1) x2) x3 (x2.getD (0) ((0 : Int), [])) ((0 : Int))) fun y1 => (rc x1 y1.1 y1.2.1))) else none) else none) else some (Sum.inl (x2, x3, ())))
noncomputable def impll46_0 (K : Nat) : Nat → ((List (List Int)) × (List Int)) → (List (Int × (List Int))) → (List (Int × Bool)) → Option (Sum ((List (Int × (List Int))) × (List (Int × Bool)) × Unit) ((List Int) × Bool × Int × Unit))
  | 0, _, _, _ => none
  | k + 1, x1, x2, x3 => implb46_0 K (impll46_0 K k) x1 x2 x3
noncomputable def n46_0 (K : Nat) : Lent := ⟨[1, 7, 8], i46_0, [30, 31, 32, 33, 34, 35, 9, 36, 37, 38, 39, 40, 41, 42, 43, 44, 45, 46, 2, 3, 4, 47, 48, 49, 10, 11, 50, 51, 52, 53, 54, 55, 56, 57, 13, 12, 58, 59, 60, 61, 62, 63, 64, 65, 66, 67, 68, 69, 70, 71, 72, 73, 74, 75, 76, 77, 78, 79, 80, 81, 82, 83, 84, 85, 86, 87, 88], [0], true, res46, fun x => impll46_0 K K x.1 x.2.1 x.2.2.1, [], none⟩
theorem q46_0 (K : Nat) (rc : ((List (List Int)) × (List Int)) → (List (Int × (List Int))) → (List (Int × Bool)) → Option (Sum ((List (Int × (List Int))) × (List (Int × Bool)) × Unit) ((List Int) × Bool × Int × Unit))) (x1 : ((List (List Int)) × (List Int))) (x2 : (List (Int × (List Int)))) (x3 : (List (Int × Bool))) : evLoop (L46_2 K) 3 46 Try.f46.results.toList (loopOf 0 (codeOf Try.f46)) 0 [1, 7, 8] [] i46_0 [0] true res46 (fun x => rc x.1 x.2.1 x.2.2.1) (x1, x2, x3, ()) = implb46_0 K rc x1 x2 x3 := by kernel_rfl
theorem lp46_0 : loopsIn (loopOf 0 (codeOf Try.f46)) 0 = [(2, loopOf 2 (codeOf Try.f46)), (4, loopOf 4 (codeOf Try.f46))] := by kernel_rfl
theorem n46_0_ok (K : Nat) : LentOk Try.prog Try.f46 (loopOf 0 (codeOf Try.f46)) (n46_0 K) := lentOk_k (slots := [1, 7, 8]) (ali := []) (ins := i46_0) (writes := [30, 31, 32, 33, 34, 35, 9, 36, 37, 38, 39, 40, 41, 42, 43, 44, 45, 46, 2, 3, 4, 47, 48, 49, 10, 11, 50, 51, 52, 53, 54, 55, 56, 57, 13, 12, 58, 59, 60, 61, 62, 63, 64, 65, 66, 67, 68, 69, 70, 71, 72, 73, 74, 75, 76, 77, 78, 79, 80, 81, 82, 83, 84, 85, 86, 87, 88]) (exits := [0]) (rets := true) (rs := res46) (d := 3) (lib46_2 K) lp46_0 ⟨one_lent (n46_2_ok K), one_lent (n46_4_ok K), trivial⟩ (by kernel_rfl) (by kernel_rfl) (by kernel_rfl) (by kernel_rfl) (by kernel_rfl) (fun k x => impll46_0 K k x.1 x.2.1 x.2.2.1) (fun _ => rfl) (fun k x => q46_0 K (impll46_0 K k) x.1 x.2.1 x.2.2.1) K
noncomputable def L46_3 (K : Nat) : Lib := mkLib ti [(30, [e30 K]), (66, [e66 K])] [] 46 [(4, [n46_4 K]), (2, [n46_2 K]), (0, [n46_0 K])]
theorem lib46_3 (K : Nat) : LibOk Try.prog (L46_3 K) := libOk_mk (ents := [(30, [e30 K]), (66, [e66 K])]) (bodies := []) (loops := [(4, [n46_4 K]), (2, [n46_2 K]), (0, [n46_0 K])]) order tiOk ⟨one_ent (e30_ok K), one_ent (e66_ok K), trivial⟩ trivial Try.func46 rfl lp46 ⟨one_lent (n46_0_ok K), one_lent (n46_2_ok K), one_lent (n46_4_ok K), trivial⟩
noncomputable def implf46 (K : Nat) (x1 : ((List (List Int)) × (List Int))) : Option ((List Int) × Bool × Int) :=
  (ob (implf30 K x1) fun y1 => (bif y1 != (0 : Int) then some (([], false, y1)) else (if (↑x1.1.length : Int) < (0 : Int) then none else (ob (impll46_0 K K x1 ((List.replicate 1 ((0 : Int), [])).set 0 (IntKind.u64.wrap (IntKind.u64.wrap ((1 : Int) * (2 : Int) ^ min (↑x1.1.length : Int).toNat IntKind.u64.bits) - (1 : Int)), [])) [(IntKind.u64.wrap (IntKind.u64.wrap ((1 : Int) * (2 : Int) ^ min (↑x1.1.length : Int).toNat IntKind.u64.bits) - (1 : Int)), true)]) fun y2 => (match y2 with | .inl y3 => some (([], false, (0 : Int))) | .inr y3 => some ((y3.1, y3.2.1, y3.2.2.1)))))))
theorem q46 (K : Nat) (x1 : ((List (List Int)) × (List Int))) : evFnK (α := (List Int) × Bool × Int) (L46_3 K) 3 46 Try.f46.results.toList (codeOf Try.f46) ins46 res46 (fun p => (p.1.1, p.1.2.1, p.1.2.2.1)) (x1, ()) = implf46 K x1 := by kernel_rfl
noncomputable def e46 (K : Nat) : Ent := ⟨ins46, res46, (List Int) × Bool × Int, fun x => implf46 K x.1, fun _ => (fun y => ((y.1, y.2.1, y.2.2, ()), (()))), false⟩
theorem e46_ok (K : Nat) : EntOk Try.prog 46 (e46 K) := entOk_k (ins := ins46) (rs := res46) (α := (List Int) × Bool × Int) (lib46_3 K) (d := 3) Try.func46 rfl (by kernel_rfl) (by kernel_rfl) (by kernel_rfl) (fun x => implf46 K x.1) (fun p => (p.1.1, p.1.2.1, p.1.2.2.1)) (fun y => ((y.1, y.2.1, y.2.2, ()), (()))) (fun _ => rfl) (fun x => q46 K x.1)

/-! diaphone/diaphonelaw08.sane -/
abbrev ins20 : Fs := []
abbrev res20 : Sh := .dat (.bool)
theorem lp20 : loopsIn (codeOf Try.f20) 0 = [] := by kernel_rfl
noncomputable def L20_0 (K : Nat) : Lib := mkLib ti [(21, [e21 K]), (23, [e23 K]), (24, [e24 K]), (26, [e26 K]), (46, [e46 K])] [(58, Try.f58)] 20 []
theorem lib20_0 (K : Nat) : LibOk Try.prog (L20_0 K) := libOk_mk (ents := [(21, [e21 K]), (23, [e23 K]), (24, [e24 K]), (26, [e26 K]), (46, [e46 K])]) (bodies := [(58, Try.f58)]) (loops := []) order tiOk ⟨one_ent (e21_ok K), one_ent (e23_ok K), one_ent (e24_ok K), one_ent (e26_ok K), one_ent (e46_ok K), trivial⟩ ⟨bod58, trivial⟩ Try.func20 rfl lp20 trivial
noncomputable def implf20 (K : Nat)  : Option (Bool) :=
  (ob (implf26 K (((List.replicate 2 (List.replicate 2 ((0 : Int)))).set 0 (((List.replicate 2 ((0 : Int))).set 0 ((1 : Int))).set 1 ((0 : Int)))).set 1 (((List.replicate 2 ((0 : Int))).set 0 ((1 : Int))).set 1 ((0 : Int))), ((List.replicate 2 ((0 : Int))).set 0 ((0 : Int))).set 1 ((1 : Int))) ((((List.replicate 3 ((0 : Int))).set 0 ((0 : Int))).set 1 ((1 : Int))).set 2 ((0 : Int)))) fun y1 => (ob (implf24 K (((List.replicate 2 (List.replicate 2 ((0 : Int)))).set 0 (((List.replicate 2 ((0 : Int))).set 0 ((1 : Int))).set 1 ((0 : Int)))).set 1 (((List.replicate 2 ((0 : Int))).set 0 ((1 : Int))).set 1 ((0 : Int))), ((List.replicate 2 ((0 : Int))).set 0 ((0 : Int))).set 1 ((1 : Int))) ((3 : Int)) ((1 : Int))) fun y2 => (ob (implf46 K (((List.replicate 2 (List.replicate 2 ((0 : Int)))).set 0 (((List.replicate 2 ((0 : Int))).set 0 ((1 : Int))).set 1 ((0 : Int)))).set 1 (((List.replicate 2 ((0 : Int))).set 0 ((1 : Int))).set 1 ((0 : Int))), ((List.replicate 2 ((0 : Int))).set 0 ((0 : Int))).set 1 ((1 : Int)))) fun y3 => (ob (implf21 K ((((List.replicate 3 (List.replicate 2 ((0 : Int)))).set 0 (((List.replicate 2 ((0 : Int))).set 0 ((1 : Int))).set 1 ((2 : Int)))).set 1 (((List.replicate 2 ((0 : Int))).set 0 ((1 : Int))).set 1 ((2 : Int)))).set 2 (((List.replicate 2 ((0 : Int))).set 0 ((1 : Int))).set 1 ((2 : Int))), (((List.replicate 3 ((0 : Int))).set 0 ((0 : Int))).set 1 ((1 : Int))).set 2 ((1 : Int)))) fun y4 => (bif y1.2 == (0 : Int) then (ob (implf23 K y1.1 (((((List.replicate 4 ((0 : Int))).set 0 ((0 : Int))).set 1 ((1 : Int))).set 2 ((0 : Int))).set 3 ((1 : Int)))) fun y5 => (bif y5 then (bif y2.2 == (0 : Int) then (bif y2.1 == (4 : Int) then (bif y3.2.2 == (0 : Int) then (bif y3.2.1 then (ob (implf23 K y3.1 ((List.replicate 1 ((0 : Int))).set 0 ((0 : Int)))) fun y6 => (bif y6 then (bif y4.2 == (0 : Int) then (ob (implf23 K y4.1 ((((List.replicate 3 ((0 : Int))).set 0 ((0 : Int))).set 1 ((1 : Int))).set 2 ((1 : Int)))) fun y7 => some (y7)) else some (false)) else some (false))) else some (false)) else some (false)) else some (false)) else some (false)) else some (false))) else some (false))))))
theorem q20 (K : Nat)  : evFnK (α := Bool) (L20_0 K) 3 20 Try.f20.results.toList (codeOf Try.f20) ins20 res20 (fun p => p.1) (()) = implf20 K  := by kernel_rfl
noncomputable def e20 (K : Nat) : Ent := ⟨ins20, res20, Bool, fun x => implf20 K , fun _ => (fun y => (y, (()))), false⟩
theorem e20_ok (K : Nat) : EntOk Try.prog 20 (e20 K) := entOk_k (ins := ins20) (rs := res20) (α := Bool) (lib20_0 K) (d := 3) Try.func20 rfl (by kernel_rfl) (by kernel_rfl) (by kernel_rfl) (fun x => implf20 K ) (fun p => p.1) (fun y => (y, (()))) (fun _ => rfl) (fun x => q20 K )

/-! diaphone/relay.State -/
abbrev ins28 : Fs := [(.dat (.pr (.sl (.arr 2 (.int .i64))) (.sl (.int .i64))), false), (.dat (.sl (.int .i64)), false)]
abbrev res28 : Sh := .cons (.dat (.int .i64)) (.cons (.dat (.int .i64)) (.un))
theorem lp28 : loopsIn (codeOf Try.f28) 0 = [(0, loopOf 0 (codeOf Try.f28))] := by kernel_rfl
noncomputable def L28_0 (K : Nat) : Lib := mkLib ti [(63, [e63 K])] [] 28 []
theorem lib28_0 (K : Nat) : LibOk Try.prog (L28_0 K) := libOk_mk (ents := [(63, [e63 K])]) (bodies := []) (loops := []) order tiOk ⟨one_ent (e63_ok K), trivial⟩ trivial Try.func28 rfl lp28 ⟨no_lent, trivial⟩
abbrev i28_0 : Fs := [(.box (.dat (.pr (.sl (.arr 2 (.int Go.IntKind.i64))) (.sl (.int Go.IntKind.i64)))), false), (.dat (.int Go.IntKind.i64), true), (.dat (.sl (.int Go.IntKind.i64)), false), (.dat (.int Go.IntKind.i64), false), (.dat (.int Go.IntKind.i64), true)]
noncomputable def implb28_0 (K : Nat) (rc : ((List (List Int)) × (List Int)) → Int → (List Int) → Int → Int → Option (Int × Int × Unit)) (x1 : ((List (List Int)) × (List Int))) (x2 : Int) (x3 : (List Int)) (x4 : Int) (x5 : Int) : Option (Int × Int × Unit) :=
  (bif decide (x5 < x4) then (if (0 : Int) ≤ x5 ∧ x5 < (↑x3.length : Int) then (if (0 : Int) ≤ x2 ∧ x2 < (↑x1.1.length : Int) then (if (0 : Int) ≤ x3.getD x5.toNat ((0 : Int)) ∧ x3.getD x5.toNat ((0 : Int)) < (2 : Int) then (rc x1 ((x1.1.getD x2.toNat (List.replicate 2 ((0 : Int)))).getD (x3.getD x5.toNat ((0 : Int))).toNat ((0 : Int))) x3 x4 (IntKind.i64.wrap (x5 + (1 : Int)))) else none) else none) else none) else some ((x2, x5, ())))
noncomputable def impll28_0 (K : Nat) : Nat → ((List (List Int)) × (List Int)) → Int → (List Int) → Int → Int → Option (Int × Int × Unit)
  | 0, _, _, _, _, _ => none
  | k + 1, x1, x2, x3, x4, x5 => implb28_0 K (impll28_0 K k) x1 x2 x3 x4 x5
noncomputable def n28_0 (K : Nat) : Lent := ⟨[2, 7, 16, 17, 18], i28_0, [19, 20, 21, 9, 22, 23, 24, 25, 26, 27, 28, 29], [0], false, res28, fun x => impll28_0 K K x.1 x.2.1 x.2.2.1 x.2.2.2.1 x.2.2.2.2.1, [], none⟩
theorem q28_0 (K : Nat) (rc : ((List (List Int)) × (List Int)) → Int → (List Int) → Int → Int → Option (Int × Int × Unit)) (x1 : ((List (List Int)) × (List Int))) (x2 : Int) (x3 : (List Int)) (x4 : Int) (x5 : Int) : evLoop (L28_0 K) 3 28 Try.f28.results.toList (loopOf 0 (codeOf Try.f28)) 0 [2, 7, 16, 17, 18] [] i28_0 [0] false res28 (fun x => rc x.1 x.2.1 x.2.2.1 x.2.2.2.1 x.2.2.2.2.1) (x1, x2, x3, x4, x5, ()) = implb28_0 K rc x1 x2 x3 x4 x5 := by kernel_rfl
theorem lp28_0 : loopsIn (loopOf 0 (codeOf Try.f28)) 0 = [] := by kernel_rfl
theorem n28_0_ok (K : Nat) : LentOk Try.prog Try.f28 (loopOf 0 (codeOf Try.f28)) (n28_0 K) := lentOk_k (slots := [2, 7, 16, 17, 18]) (ali := []) (ins := i28_0) (writes := [19, 20, 21, 9, 22, 23, 24, 25, 26, 27, 28, 29]) (exits := [0]) (rets := false) (rs := res28) (d := 3) (lib28_0 K) lp28_0 trivial (by kernel_rfl) (by kernel_rfl) (by kernel_rfl) (by kernel_rfl) (by kernel_rfl) (fun k x => impll28_0 K k x.1 x.2.1 x.2.2.1 x.2.2.2.1 x.2.2.2.2.1) (fun _ => rfl) (fun k x => q28_0 K (impll28_0 K k) x.1 x.2.1 x.2.2.1 x.2.2.2.1 x.2.2.2.2.1) K
noncomputable def L28_1 (K : Nat) : Lib := mkLib ti [(63, [e63 K])] [] 28 [(0, [n28_0 K])]
theorem lib28_1 (K : Nat) : LibOk Try.prog (L28_1 K) := libOk_mk (ents := [(63, [e63 K])]) (bodies := []) (loops := [(0, [n28_0 K])]) order tiOk ⟨one_ent (e63_ok K), trivial⟩ trivial Try.func28 rfl lp28 ⟨one_lent (n28_0_ok K), trivial⟩
noncomputable def implf28 (K : Nat) (x1 : ((List (List Int)) × (List Int))) (x2 : (List Int)) : Option (Int × Int) :=
  (ob (implf63 K x1 x2) fun y1 => (bif y1 != (0 : Int) then some (((0 : Int), y1)) else (ob (impll28_0 K K x1 ((0 : Int)) x2 ((↑x2.length : Int)) ((0 : Int))) fun y2 => some ((y2.1, (0 : Int))))))
theorem q28 (K : Nat) (x1 : ((List (List Int)) × (List Int))) (x2 : (List Int)) : evFnK (α := Int × Int) (L28_1 K) 3 28 Try.f28.results.toList (codeOf Try.f28) ins28 res28 (fun p => (p.1.1, p.1.2.1)) (x1, x2, ()) = implf28 K x1 x2 := by kernel_rfl
noncomputable def e28 (K : Nat) : Ent := ⟨ins28, res28, Int × Int, fun x => implf28 K x.1 x.2.1, fun _ => (fun y => ((y.1, y.2, ()), (()))), false⟩
theorem e28_ok (K : Nat) : EntOk Try.prog 28 (e28 K) := entOk_k (ins := ins28) (rs := res28) (α := Int × Int) (lib28_1 K) (d := 3) Try.func28 rfl (by kernel_rfl) (by kernel_rfl) (by kernel_rfl) (fun x => implf28 K x.1 x.2.1) (fun p => (p.1.1, p.1.2.1)) (fun y => ((y.1, y.2, ()), (()))) (fun _ => rfl) (fun x => q28 K x.1 x.2.1)

/-! slices.Sort[[]int,int] -/
abbrev ins84 : Fs := [(.own (.int .i64), true)]
abbrev res84 : Sh := .nix
noncomputable def implf84 (K : Nat) (x1 : List Int) : Option (List Int) := if x1.length ≤ 1000 then some (isort leI x1) else none
noncomputable def e84 (K : Nat) : Ent := ⟨ins84, res84, List Int, fun x => implf84 K x.1, fun _ => (fun y => ((), (y, ()))), false⟩
theorem e84_ok (K : Nat) : EntOk Try.prog 84 (e84 K) := sort_ent

/-! diaphone/relay.Reached -/
abbrev ins54 : Fs := [(.dat (.pr (.sl (.arr 2 (.int .i64))) (.sl (.int .i64))), false)]
abbrev res54 : Sh := .cons (.own (.int .i64)) (.cons (.dat (.int .i64)) (.un))
noncomputable def implf54 (K : Nat) (x1 : ((List (List Int)) × (List Int))) : Option ((List Int) × Int) := ob (implf30 K x1) fun e => (bif decide (e = 0) then ob (implf83 K x1) fun m => (if m.length ≤ 1000 then some (isort leI (m.map fun p => p.1), 0) else none) else some ([], e))
noncomputable def e54 (K : Nat) : Ent := ⟨ins54, res54, (List Int) × Int, fun x => implf54 K x.1, fun _ => (fun y => ((y.1, y.2, ()), (()))), false⟩
theorem e54_ok (K : Nat) : EntOk Try.prog 54 (e54 K) := reached_ent (e30_ok K) (e83_ok K)

/-! diaphone/diaphoneref08.within -/
abbrev ins62 : Fs := [(.dat (.int .i64), false), (.dat (.int .i64), false), (.dat (.int .i64), false)]
abbrev res62 : Sh := .dat (.bool)
theorem lp62 : loopsIn (codeOf Try.f62) 0 = [] := by kernel_rfl
noncomputable def L62_0 (K : Nat) : Lib := mkLib ti [] [] 62 []
theorem lib62_0 (K : Nat) : LibOk Try.prog (L62_0 K) := libOk_mk (ents := []) (bodies := []) (loops := []) order tiOk trivial trivial Try.func62 rfl lp62 trivial
noncomputable def implf62 (K : Nat) (x1 : Int) (x2 : Int) (x3 : Int) : Option (Bool) :=
  (bif decide (x1 ≥ x2) then some (decide (x1 ≤ x3)) else some (false))
theorem q62 (K : Nat) (x1 : Int) (x2 : Int) (x3 : Int) : evFnK (α := Bool) (L62_0 K) 3 62 Try.f62.results.toList (codeOf Try.f62) ins62 res62 (fun p => p.1) (x1, x2, x3, ()) = implf62 K x1 x2 x3 := by kernel_rfl
noncomputable def e62 (K : Nat) : Ent := ⟨ins62, res62, Bool, fun x => implf62 K x.1 x.2.1 x.2.2.1, fun _ => (fun y => (y, (()))), false⟩
theorem e62_ok (K : Nat) : EntOk Try.prog 62 (e62 K) := entOk_k (ins := ins62) (rs := res62) (α := Bool) (lib62_0 K) (d := 3) Try.func62 rfl (by kernel_rfl) (by kernel_rfl) (by kernel_rfl) (fun x => implf62 K x.1 x.2.1 x.2.2.1) (fun p => p.1) (fun y => (y, (()))) (fun _ => rfl) (fun x => q62 K x.1 x.2.1 x.2.2.1)

/-! diaphone/diaphoneref08.Validate -/
abbrev ins31 : Fs := [(.dat (.pr (.sl (.arr 2 (.int .i64))) (.sl (.int .i64))), false)]
abbrev res31 : Sh := .dat (.int .i64)
theorem lp31 : loopsIn (codeOf Try.f31) 0 = [(0, loopOf 0 (codeOf Try.f31))] := by kernel_rfl
noncomputable def L31_0 (K : Nat) : Lib := mkLib ti [(62, [e62 K])] [] 31 []
theorem lib31_0 (K : Nat) : LibOk Try.prog (L31_0 K) := libOk_mk (ents := [(62, [e62 K])]) (bodies := []) (loops := []) order tiOk ⟨one_ent (e62_ok K), trivial⟩ trivial Try.func31 rfl lp31 ⟨no_lent, trivial⟩
abbrev i31_0 : Fs := [(.box (.dat (.pr (.sl (.arr 2 (.int Go.IntKind.i64))) (.sl (.int Go.IntKind.i64)))), false), (.dat (.int Go.IntKind.i64), false), (.dat (.int Go.IntKind.i64), true)]
noncomputable def implb31_0 (K : Nat) (rc : ((List (List Int)) × (List Int)) → Int → Int → Option (Sum (Int × Unit) Int)) (x1 : ((List (List Int)) × (List Int))) (x2 : Int) (x3 : Int) : Option (Sum (Int × Unit) Int) :=
  (bif decide (x3 < x2) then (if (0 : Int) ≤ x3 ∧ x3 < (↑x1.2.length : Int) then (ob (implf62 K (x1.2.getD x3.toNat ((0 : Int))) ((0 : Int)) ((3 : Int))) fun y1 => (bif !y1 then some (Sum.inr ((1 : Int))) else (if (0 : Int) ≤ x3 ∧ x3 < (↑x1.1.length : Int) then (ob (implf62 K ((x1.1.getD x3.toNat (List.replicate 2 ((0 : Int)))).getD (0) ((0 : Int))) ((0 : Int)) (IntKind.i64.wrap (x2 - (1 : Int)))) fun y2 => (bif !y2 then some (Sum.inr ((1 : Int))) else (if (0 : Int) ≤ x3 ∧ x3 < (↑x1.1.length : Int) then (ob (implf62 K ((x1.1.getD x3.toNat (List.replicate 2 ((0 : Int)))).getD (1) ((0 : Int))) ((0 : Int)) (IntKind.i64.wrap (x2 - (1 : Int)))) fun y3 => (bif !y3 then some (Sum.inr ((1 : Int))) else (rc x1 x2 (IntKind.i64.wrap (x3 + (1 : Int)))))) else none))) else none))) else none) else some (Sum.inl (x3, ())))
noncomputable def impll31_0 (K : Nat) : Nat → ((List (List Int)) × (List Int)) → Int → Int → Option (Sum (Int × Unit) Int)
  | 0, _, _, _ => none
  | k + 1, x1, x2, x3 => implb31_0 K (impll31_0 K k) x1 x2 x3
noncomputable def n31_0 (K : Nat) : Lent := ⟨[1, 3, 4], i31_0, [18, 19, 20, 23, 24, 25, 26, 27, 28, 29, 30, 31, 32, 33, 34, 35, 36, 37, 38, 39, 40, 41, 42, 43, 44, 45, 46, 47, 48, 49, 50, 51, 52, 53, 2, 21, 22], [0], true, res31, fun x => impll31_0 K K x.1 x.2.1 x.2.2.1, [], none⟩
theorem q31_0 (K : Nat) (rc : ((List (List Int)) × (List Int)) → Int → Int → Option (Sum (Int × Unit) Int)) (x1 : ((List (List Int)) × (List Int))) (x2 : Int) (x3 : Int) : evLoop (L31_0 K) 3 31 Try.f31.results.toList (loopOf 0 (codeOf Try.f31)) 0 [1, 3, 4] [] i31_0 [0] true res31 (fun x => rc x.1 x.2.1 x.2.2.1) (x1, x2, x3, ()) = implb31_0 K rc x1 x2 x3 := by kernel_rfl
theorem lp31_0 : loopsIn (loopOf 0 (codeOf Try.f31)) 0 = [] := by kernel_rfl
theorem n31_0_ok (K : Nat) : LentOk Try.prog Try.f31 (loopOf 0 (codeOf Try.f31)) (n31_0 K) := lentOk_k (slots := [1, 3, 4]) (ali := []) (ins := i31_0) (writes := [18, 19, 20, 23, 24, 25, 26, 27, 28, 29, 30, 31, 32, 33, 34, 35, 36, 37, 38, 39, 40, 41, 42, 43, 44, 45, 46, 47, 48, 49, 50, 51, 52, 53, 2, 21, 22]) (exits := [0]) (rets := true) (rs := res31) (d := 3) (lib31_0 K) lp31_0 trivial (by kernel_rfl) (by kernel_rfl) (by kernel_rfl) (by kernel_rfl) (by kernel_rfl) (fun k x => impll31_0 K k x.1 x.2.1 x.2.2.1) (fun _ => rfl) (fun k x => q31_0 K (impll31_0 K k) x.1 x.2.1 x.2.2.1) K
noncomputable def L31_1 (K : Nat) : Lib := mkLib ti [(62, [e62 K])] [] 31 [(0, [n31_0 K])]
theorem lib31_1 (K : Nat) : LibOk Try.prog (L31_1 K) := libOk_mk (ents := [(62, [e62 K])]) (bodies := []) (loops := [(0, [n31_0 K])]) order tiOk ⟨one_ent (e62_ok K), trivial⟩ trivial Try.func31 rfl lp31 ⟨one_lent (n31_0_ok K), trivial⟩
noncomputable def implf31 (K : Nat) (x1 : ((List (List Int)) × (List Int))) : Option (Int) :=
  (ob (implf62 K ((↑x1.2.length : Int)) ((1 : Int)) ((6 : Int))) fun y1 => (bif !y1 then some ((1 : Int)) else (bif (↑x1.1.length : Int) != (↑x1.2.length : Int) then some ((1 : Int)) else (ob (impll31_0 K K x1 ((↑x1.2.length : Int)) ((0 : Int))) fun y2 => (match y2 with | .inl y3 => some ((0 : Int)) | .inr y3 => some (y3))))))
theorem q31 (K : Nat) (x1 : ((List (List Int)) × (List Int))) : evFnK (α := Int) (L31_1 K) 3 31 Try.f31.results.toList (codeOf Try.f31) ins31 res31 (fun p => p.1) (x1, ()) = implf31 K x1 := by kernel_rfl
noncomputable def e31 (K : Nat) : Ent := ⟨ins31, res31, Int, fun x => implf31 K x.1, fun _ => (fun y => (y, (()))), false⟩
theorem e31_ok (K : Nat) : EntOk Try.prog 31 (e31 K) := entOk_k (ins := ins31) (rs := res31) (α := Int) (lib31_1 K) (d := 3) Try.func31 rfl (by kernel_rfl) (by kernel_rfl) (by kernel_rfl) (fun x => implf31 K x.1) (fun p => p.1) (fun y => (y, (()))) (fun _ => rfl) (fun x => q31 K x.1)

/-! diaphone/diaphoneref08.end -/
abbrev ins65 : Fs := [(.dat (.pr (.sl (.arr 2 (.int .i64))) (.sl (.int .i64))), false), (.dat (.int .i64), false), (.dat (.sl (.int .i64)), false)]
abbrev res65 : Sh := .dat (.int .i64)
theorem lp65 : loopsIn (codeOf Try.f65) 0 = [(0, loopOf 0 (codeOf Try.f65))] := by kernel_rfl
noncomputable def L65_0 (K : Nat) : Lib := mkLib ti [] [] 65 []
theorem lib65_0 (K : Nat) : LibOk Try.prog (L65_0 K) := libOk_mk (ents := []) (bodies := []) (loops := []) order tiOk trivial trivial Try.func65 rfl lp65 ⟨no_lent, trivial⟩
abbrev i65_0 : Fs := [(.dat (.int Go.IntKind.i64), true), (.dat (.sl (.int Go.IntKind.i64)), false), (.box (.dat (.pr (.sl (.arr 2 (.int Go.IntKind.i64))) (.sl (.int Go.IntKind.i64)))), false), (.dat (.int Go.IntKind.i64), true)]
noncomputable def implb65_0 (K : Nat) (rc : Int → (List Int) → ((List (List Int)) × (List Int)) → Int → Option (Int × Int × Unit)) (x1 : Int) (x2 : (List Int)) (x3 : ((List (List Int)) × (List Int))) (x4 : Int) : Option (Int × Int × Unit) :=
  (bif decide (x4 < (↑x2.length : Int)) then (if (0 : Int) ≤ x4 ∧ x4 < (↑x2.length : Int) then (if (0 : Int) ≤ x1 ∧ x1 < (↑x3.1.length : Int) then (if (0 : Int) ≤ x2.getD x4.toNat ((0 : Int)) ∧ x2.getD x4.toNat ((0 : Int)) < (2 : Int) then (rc ((x3.1.getD x1.toNat (List.replicate 2 ((0 : Int)))).getD (x2.getD x4.toNat ((0 : Int))).toNat ((0 : Int))) x2 x3 (IntKind.i64.wrap (x4 + (1 : Int)))) else none) else none) else none) else some ((x1, x4, ())))
noncomputable def impll65_0 (K : Nat) : Nat → Int → (List Int) → ((List (List Int)) × (List Int)) → Int → Option (Int × Int × Unit)
  | 0, _, _, _, _ => none
  | k + 1, x1, x2, x3, x4 => implb65_0 K (impll65_0 K k) x1 x2 x3 x4
noncomputable def n65_0 (K : Nat) : Lent := ⟨[1, 2, 3, 7], i65_0, [8, 9, 10, 11, 14, 15, 16, 17, 18, 19, 20, 21, 22, 23, 12, 13], [0], false, res65, fun x => impll65_0 K K x.1 x.2.1 x.2.2.1 x.2.2.2.1, [], none⟩
theorem q65_0 (K : Nat) (rc : Int → (List Int) → ((List (List Int)) × (List Int)) → Int → Option (Int × Int × Unit)) (x1 : Int) (x2 : (List Int)) (x3 : ((List (List Int)) × (List Int))) (x4 : Int) : evLoop (L65_0 K) 3 65 Try.f65.results.toList (loopOf 0 (codeOf Try.f65)) 0 [1, 2, 3, 7] [] i65_0 [0] false res65 (fun x => rc x.1 x.2.1 x.2.2.1 x.2.2.2.1) (x1, x2, x3, x4, ()) = implb65_0 K rc x1 x2 x3 x4 := by kernel_rfl
theorem lp65_0 : loopsIn (loopOf 0 (codeOf Try.f65)) 0 = [] := by kernel_rfl
theorem n65_0_ok (K : Nat) : LentOk Try.prog Try.f65 (loopOf 0 (codeOf Try.f65)) (n65_0 K) := lentOk_k (slots := [1, 2, 3, 7]) (ali := []) (ins := i65_0) (writes := [8, 9, 10, 11, 14, 15, 16, 17, 18, 19, 20, 21, 22, 23, 12, 13]) (exits := [0]) (rets := false) (rs := res65) (d := 3) (lib65_0 K) lp65_0 trivial (by kernel_rfl) (by kernel_rfl) (by kernel_rfl) (by kernel_rfl) (by kernel_rfl) (fun k x => impll65_0 K k x.1 x.2.1 x.2.2.1 x.2.2.2.1) (fun _ => rfl) (fun k x => q65_0 K (impll65_0 K k) x.1 x.2.1 x.2.2.1 x.2.2.2.1) K
noncomputable def L65_1 (K : Nat) : Lib := mkLib ti [] [] 65 [(0, [n65_0 K])]
theorem lib65_1 (K : Nat) : LibOk Try.prog (L65_1 K) := libOk_mk (ents := []) (bodies := []) (loops := [(0, [n65_0 K])]) order tiOk trivial trivial Try.func65 rfl lp65 ⟨one_lent (n65_0_ok K), trivial⟩
noncomputable def implf65 (K : Nat) (x1 : ((List (List Int)) × (List Int))) (x2 : Int) (x3 : (List Int)) : Option (Int) :=
  (ob (impll65_0 K K x2 x3 x1 ((0 : Int))) fun y1 => some (y1.1))
theorem q65 (K : Nat) (x1 : ((List (List Int)) × (List Int))) (x2 : Int) (x3 : (List Int)) : evFnK (α := Int) (L65_1 K) 3 65 Try.f65.results.toList (codeOf Try.f65) ins65 res65 (fun p => p.1) (x1, x2, x3, ()) = implf65 K x1 x2 x3 := by kernel_rfl
noncomputable def e65 (K : Nat) : Ent := ⟨ins65, res65, Int, fun x => implf65 K x.1 x.2.1 x.2.2.1, fun _ => (fun y => (y, (()))), false⟩
theorem e65_ok (K : Nat) : EntOk Try.prog 65 (e65 K) := entOk_k (ins := ins65) (rs := res65) (α := Int) (lib65_1 K) (d := 3) Try.func65 rfl (by kernel_rfl) (by kernel_rfl) (by kernel_rfl) (fun x => implf65 K x.1 x.2.1 x.2.2.1) (fun p => p.1) (fun y => (y, (()))) (fun _ => rfl) (fun x => q65 K x.1 x.2.1 x.2.2.1)

/-! diaphone/diaphoneref08.state -/
abbrev ins72 : Fs := [(.dat (.pr (.sl (.arr 2 (.int .i64))) (.sl (.int .i64))), false), (.dat (.int .i64), false)]
abbrev res72 : Sh := .dat (.int .i64)
theorem lp72 : loopsIn (codeOf Try.f72) 0 = [] := by kernel_rfl
noncomputable def L72_0 (K : Nat) : Lib := mkLib ti [(31, [e31 K]), (62, [e62 K])] [] 72 []
theorem lib72_0 (K : Nat) : LibOk Try.prog (L72_0 K) := libOk_mk (ents := [(31, [e31 K]), (62, [e62 K])]) (bodies := []) (loops := []) order tiOk ⟨one_ent (e31_ok K), one_ent (e62_ok K), trivial⟩ trivial Try.func72 rfl lp72 trivial
noncomputable def implf72 (K : Nat) (x1 : ((List (List Int)) × (List Int))) (x2 : Int) : Option (Int) :=
  (ob (implf31 K x1) fun y1 => (bif y1 != (0 : Int) then some (y1) else (ob (implf62 K x2 ((0 : Int)) (IntKind.i64.wrap ((↑x1.2.length : Int) - (1 : Int)))) fun y2 => (bif !y2 then some ((4 : Int)) else some ((0 : Int))))))
theorem q72 (K : Nat) (x1 : ((List (List Int)) × (List Int))) (x2 : Int) : evFnK (α := Int) (L72_0 K) 3 72 Try.f72.results.toList (codeOf Try.f72) ins72 res72 (fun p => p.1) (x1, x2, ()) = implf72 K x1 x2 := by kernel_rfl
noncomputable def e72 (K : Nat) : Ent := ⟨ins72, res72, Int, fun x => implf72 K x.1 x.2.1, fun _ => (fun y => (y, (()))), false⟩
theorem e72_ok (K : Nat) : EntOk Try.prog 72 (e72 K) := entOk_k (ins := ins72) (rs := res72) (α := Int) (lib72_0 K) (d := 3) Try.func72 rfl (by kernel_rfl) (by kernel_rfl) (by kernel_rfl) (fun x => implf72 K x.1 x.2.1) (fun p => p.1) (fun y => (y, (()))) (fun _ => rfl) (fun x => q72 K x.1 x.2.1)

end Go.Proofs.Ythdmngalhppkcaa
