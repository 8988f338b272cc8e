/- What the functions compute: printed by a program of this claim's author. -/
import Derived.Test.YtbpjodikknbcoaaGreatDoorFs2
set_option maxRecDepth 100000
set_option linter.unusedVariables false
set_option linter.unusedSimpArgs false
namespace Go.Proofs.YtbpjodikknbcoaaGreatDoor
open Go Go.Pv
/-! diaphone/diaphonelaw09.Long -/
abbrev ins26 : Fs := [(.dat (.sl (.str)), false)]
abbrev res26 : Sh := .dat (.bool)
theorem lp26 : loopsIn (codeOf Tryz.f26) 0 = [(0, loopOf 0 (codeOf Tryz.f26))] := by kernel_rfl
noncomputable def L26_0 (K : Nat) : Lib := mkLib ti [] [] 26 []
theorem lib26_0 (K : Nat) : LibOk Tryz.prog (L26_0 K) := libOk_mk (ents := []) (bodies := []) (loops := []) order tiOk trivial trivial Tryz.func26 rfl lp26 ⟨no_lent, trivial⟩
abbrev i26_0 : Fs := [(.dat (.sl (.str)), false), (.dat (.int Go.IntKind.i64), true)]
noncomputable def implb26_0 (K : Nat) (rc : (List ByteArray) → Int → Option (Sum (Int × Unit) Bool)) (x1 : (List ByteArray)) (x2 : Int) : Option (Sum (Int × Unit) Bool) :=
  (bif decide (x2 < (↑x1.length : Int)) then (if (0 : Int) ≤ x2 ∧ x2 < (↑x1.length : Int) then (bif decide ((↑(x1.getD x2.toNat ByteArray.empty).size : Int) > (400 : Int)) then some (Sum.inr true) else (rc x1 (IntKind.i64.wrap (x2 + (1 : Int))))) else none) else some (Sum.inl (x2, ())))
noncomputable def impll26_0 (K : Nat) : Nat → (List ByteArray) → Int → Option (Sum (Int × Unit) Bool)
  | 0, _, _ => none
  | k + 1, x1, x2 => implb26_0 K (impll26_0 K k) x1 x2
noncomputable def n26_0 (K : Nat) : Lent := ⟨[0, 3], i26_0, [4, 5, 6, 7, 10, 11, 12, 13, 14, 15, 2, 8, 9], [0], true, res26, fun x => impll26_0 K K x.1 x.2.1, [], none⟩
theorem q26_0 (K : Nat) (rc : (List ByteArray) → Int → Option (Sum (Int × Unit) Bool)) (x1 : (List ByteArray)) (x2 : Int) : evLoop (L26_0 K) 3 26 Tryz.f26.results.toList (loopOf 0 (codeOf Tryz.f26)) 0 [0, 3] [] i26_0 [0] true res26 (fun x => rc x.1 x.2.1) (x1, x2, ()) = implb26_0 K rc x1 x2 := by kernel_rfl
theorem lp26_0 : loopsIn (loopOf 0 (codeOf Tryz.f26)) 0 = [] := by kernel_rfl
theorem n26_0_ok (K : Nat) : LentOk Tryz.prog Tryz.f26 (loopOf 0 (codeOf Tryz.f26)) (n26_0 K) := lentOk_k (slots := [0, 3]) (ali := []) (ins := i26_0) (writes := [4, 5, 6, 7, 10, 11, 12, 13, 14, 15, 2, 8, 9]) (exits := [0]) (rets := true) (rs := res26) (d := 3) (lib26_0 K) lp26_0 trivial (by kernel_rfl) (by kernel_rfl) (by kernel_rfl) (by kernel_rfl) (by kernel_rfl) (fun k x => impll26_0 K k x.1 x.2.1) (fun _ => rfl) (fun k x => q26_0 K (impll26_0 K k) x.1 x.2.1) K
noncomputable def L26_1 (K : Nat) : Lib := mkLib ti [] [] 26 [(0, [n26_0 K])]
theorem lib26_1 (K : Nat) : LibOk Tryz.prog (L26_1 K) := libOk_mk (ents := []) (bodies := []) (loops := [(0, [n26_0 K])]) order tiOk trivial trivial Tryz.func26 rfl lp26 ⟨one_lent (n26_0_ok K), trivial⟩
noncomputable def implf26 (K : Nat) (x1 : (List ByteArray)) : Option (Bool) :=
  (ob (impll26_0 K K x1 ((0 : Int))) fun y1 => (match y1 with | .inl y2 => some (decide ((↑x1.length : Int) > (300 : Int))) | .inr y2 => some (y2)))
theorem q26 (K : Nat) (x1 : (List ByteArray)) : evFnK (α := Bool) (L26_1 K) 3 26 Tryz.f26.results.toList (codeOf Tryz.f26) ins26 res26 (fun p => p.1) (x1, ()) = implf26 K x1 := by kernel_rfl
noncomputable def e26 (K : Nat) : Ent := ⟨ins26, res26, Bool, fun x => implf26 K x.1, fun _ => (fun y => (y, (()))), false⟩
theorem e26_ok (K : Nat) : EntOk Tryz.prog 26 (e26 K) := entOk_k (ins := ins26) (rs := res26) (α := Bool) (lib26_1 K) (d := 3) Tryz.func26 rfl (by kernel_rfl) (by kernel_rfl) (by kernel_rfl) (fun x => implf26 K x.1) (fun p => p.1) (fun y => (y, (()))) (fun _ => rfl) (fun x => q26 K x.1)

/-! (*diaphone/station.Station).Stock -/
abbrev ins33a : Fs := [(.box (.dat (.pr (.pr (.int .i32) (.int .u32)) (.pr (.sl (.int .i64)) (.pr (.sl (.int .i64)) (.pr (.pr (.sl (.arr 2 (.int .i64))) (.sl (.int .i64))) (.pr (.int .i64) (.pr (.bool) (.pr (.int .i64) (.pr (.int .i64) (.pr (.int .i64) (.pr (.int .i64) (.pr (.int .i64) (.pr (.int .i64) (.pr (.int .i64) (.pr (.int .i64) (.pr (.int .i64) (.pr (.int .i64) (.sl (.str))))))))))))))))))), false)]
abbrev res33a : Sh := .dat (.int .i64)
theorem lp33 : loopsIn (codeOf Tryz.f33) 0 = [] := by kernel_rfl
noncomputable def L33a_0 (K : Nat) : Lib := mkLib ti [(68, [e68a K, e68b K])] [] 33 []
theorem lib33a_0 (K : Nat) : LibOk Tryz.prog (L33a_0 K) := libOk_mk (ents := [(68, [e68a K, e68b K])]) (bodies := []) (loops := []) order tiOk ⟨more_ent (e68a_ok K) (one_ent (e68b_ok K)), trivial⟩ trivial Tryz.func33 rfl lp33 trivial
noncomputable def implf33a (K : Nat) (x1 : STN) : Option (Int) :=
  (ob (implf68a K x1) fun y1 => some (y1.2.2.2.2.1))
theorem q33a (K : Nat) (x1 : STN) : evFnK (α := Int) (L33a_0 K) 3 33 Tryz.f33.results.toList (codeOf Tryz.f33) ins33a res33a (fun p => p.1) (x1, ()) = implf33a K x1 := by kernel_rfl
noncomputable def e33a (K : Nat) : Ent := ⟨ins33a, res33a, Int, fun x => implf33a K x.1, fun _ => (fun y => (y, (()))), false⟩
theorem e33a_ok (K : Nat) : EntOk Tryz.prog 33 (e33a K) := entOk_k (ins := ins33a) (rs := res33a) (α := Int) (lib33a_0 K) (d := 3) Tryz.func33 rfl (by kernel_rfl) (by kernel_rfl) (by kernel_rfl) (fun x => implf33a K x.1) (fun p => p.1) (fun y => (y, (()))) (fun _ => rfl) (fun x => q33a K x.1)

abbrev ins33b : Fs := [(.dat .np, false)]
abbrev res33b : Sh := .dat (.int .i64)
noncomputable def L33b_0 (K : Nat) : Lib := mkLib ti [(68, [e68a K, e68b K])] [] 33 []
theorem lib33b_0 (K : Nat) : LibOk Tryz.prog (L33b_0 K) := libOk_mk (ents := [(68, [e68a K, e68b K])]) (bodies := []) (loops := []) order tiOk ⟨more_ent (e68a_ok K) (one_ent (e68b_ok K)), trivial⟩ trivial Tryz.func33 rfl lp33 trivial
noncomputable def implf33b (K : Nat) (x1 : Unit) : Option (Int) :=
  (ob (implf68b K x1) fun y1 => some (y1.2.2.2.2.1))
theorem q33b (K : Nat) (x1 : Unit) : evFnK (α := Int) (L33b_0 K) 3 33 Tryz.f33.results.toList (codeOf Tryz.f33) ins33b res33b (fun p => p.1) (x1, ()) = implf33b K x1 := by kernel_rfl
noncomputable def e33b (K : Nat) : Ent := ⟨ins33b, res33b, Int, fun x => implf33b K x.1, fun _ => (fun y => (y, (()))), false⟩
theorem e33b_ok (K : Nat) : EntOk Tryz.prog 33 (e33b K) := entOk_k (ins := ins33b) (rs := res33b) (α := Int) (lib33b_0 K) (d := 3) Tryz.func33 rfl (by kernel_rfl) (by kernel_rfl) (by kernel_rfl) (fun x => implf33b K x.1) (fun p => p.1) (fun y => (y, (()))) (fun _ => rfl) (fun x => q33b K x.1)

/-! (*diaphone/station.Station).Air -/
abbrev ins37a : Fs := [(.box (.dat (.pr (.pr (.int .i32) (.int .u32)) (.pr (.sl (.int .i64)) (.pr (.sl (.int .i64)) (.pr (.pr (.sl (.arr 2 (.int .i64))) (.sl (.int .i64))) (.pr (.int .i64) (.pr (.bool) (.pr (.int .i64) (.pr (.int .i64) (.pr (.int .i64) (.pr (.int .i64) (.pr (.int .i64) (.pr (.int .i64) (.pr (.int .i64) (.pr (.int .i64) (.pr (.int .i64) (.pr (.int .i64) (.sl (.str))))))))))))))))))), false)]
abbrev res37a : Sh := .dat (.int .i64)
theorem lp37 : loopsIn (codeOf Tryz.f37) 0 = [] := by kernel_rfl
noncomputable def L37a_0 (K : Nat) : Lib := mkLib ti [(68, [e68a K, e68b K])] [] 37 []
theorem lib37a_0 (K : Nat) : LibOk Tryz.prog (L37a_0 K) := libOk_mk (ents := [(68, [e68a K, e68b K])]) (bodies := []) (loops := []) order tiOk ⟨more_ent (e68a_ok K) (one_ent (e68b_ok K)), trivial⟩ trivial Tryz.func37 rfl lp37 trivial
noncomputable def implf37a (K : Nat) (x1 : STN) : Option (Int) :=
  (ob (implf68a K x1) fun y1 => some (y1.2.2.2.1))
theorem q37a (K : Nat) (x1 : STN) : evFnK (α := Int) (L37a_0 K) 3 37 Tryz.f37.results.toList (codeOf Tryz.f37) ins37a res37a (fun p => p.1) (x1, ()) = implf37a K x1 := by kernel_rfl
noncomputable def e37a (K : Nat) : Ent := ⟨ins37a, res37a, Int, fun x => implf37a K x.1, fun _ => (fun y => (y, (()))), false⟩
theorem e37a_ok (K : Nat) : EntOk Tryz.prog 37 (e37a K) := entOk_k (ins := ins37a) (rs := res37a) (α := Int) (lib37a_0 K) (d := 3) Tryz.func37 rfl (by kernel_rfl) (by kernel_rfl) (by kernel_rfl) (fun x => implf37a K x.1) (fun p => p.1) (fun y => (y, (()))) (fun _ => rfl) (fun x => q37a K x.1)

abbrev ins37b : Fs := [(.dat .np, false)]
abbrev res37b : Sh := .dat (.int .i64)
noncomputable def L37b_0 (K : Nat) : Lib := mkLib ti [(68, [e68a K, e68b K])] [] 37 []
theorem lib37b_0 (K : Nat) : LibOk Tryz.prog (L37b_0 K) := libOk_mk (ents := [(68, [e68a K, e68b K])]) (bodies := []) (loops := []) order tiOk ⟨more_ent (e68a_ok K) (one_ent (e68b_ok K)), trivial⟩ trivial Tryz.func37 rfl lp37 trivial
noncomputable def implf37b (K : Nat) (x1 : Unit) : Option (Int) :=
  (ob (implf68b K x1) fun y1 => some (y1.2.2.2.1))
theorem q37b (K : Nat) (x1 : Unit) : evFnK (α := Int) (L37b_0 K) 3 37 Tryz.f37.results.toList (codeOf Tryz.f37) ins37b res37b (fun p => p.1) (x1, ()) = implf37b K x1 := by kernel_rfl
noncomputable def e37b (K : Nat) : Ent := ⟨ins37b, res37b, Int, fun x => implf37b K x.1, fun _ => (fun y => (y, (()))), false⟩
theorem e37b_ok (K : Nat) : EntOk Tryz.prog 37 (e37b K) := entOk_k (ins := ins37b) (rs := res37b) (α := Int) (lib37b_0 K) (d := 3) Tryz.func37 rfl (by kernel_rfl) (by kernel_rfl) (by kernel_rfl) (fun x => implf37b K x.1) (fun p => p.1) (fun y => (y, (()))) (fun _ => rfl) (fun x => q37b K x.1)

/-! (*diaphone/station.Station).Sounded -/
abbrev ins38a : Fs := [(.box (.dat (.pr (.pr (.int .i32) (.int .u32)) (.pr (.sl (.int .i64)) (.pr (.sl (.int .i64)) (.pr (.pr (.sl (.arr 2 (.int .i64))) (.sl (.int .i64))) (.pr (.int .i64) (.pr (.bool) (.pr (.int .i64) (.pr (.int .i64) (.pr (.int .i64) (.pr (.int .i64) (.pr (.int .i64) (.pr (.int .i64) (.pr (.int .i64) (.pr (.int .i64) (.pr (.int .i64) (.pr (.int .i64) (.sl (.str))))))))))))))))))), false)]
abbrev res38a : Sh := .dat (.int .i64)
theorem lp38 : loopsIn (codeOf Tryz.f38) 0 = [] := by kernel_rfl
noncomputable def L38a_0 (K : Nat) : Lib := mkLib ti [(68, [e68a K, e68b K])] [] 38 []
theorem lib38a_0 (K : Nat) : LibOk Tryz.prog (L38a_0 K) := libOk_mk (ents := [(68, [e68a K, e68b K])]) (bodies := []) (loops := []) order tiOk ⟨more_ent (e68a_ok K) (one_ent (e68b_ok K)), trivial⟩ trivial Tryz.func38 rfl lp38 trivial
noncomputable def implf38a (K : Nat) (x1 : STN) : Option (Int) :=
  (ob (implf68a K x1) fun y1 => some (y1.2.2.2.2.2.2.1))
theorem q38a (K : Nat) (x1 : STN) : evFnK (α := Int) (L38a_0 K) 3 38 Tryz.f38.results.toList (codeOf Tryz.f38) ins38a res38a (fun p => p.1) (x1, ()) = implf38a K x1 := by kernel_rfl
noncomputable def e38a (K : Nat) : Ent := ⟨ins38a, res38a, Int, fun x => implf38a K x.1, fun _ => (fun y => (y, (()))), false⟩
theorem e38a_ok (K : Nat) : EntOk Tryz.prog 38 (e38a K) := entOk_k (ins := ins38a) (rs := res38a) (α := Int) (lib38a_0 K) (d := 3) Tryz.func38 rfl (by kernel_rfl) (by kernel_rfl) (by kernel_rfl) (fun x => implf38a K x.1) (fun p => p.1) (fun y => (y, (()))) (fun _ => rfl) (fun x => q38a K x.1)

abbrev ins38b : Fs := [(.dat .np, false)]
abbrev res38b : Sh := .dat (.int .i64)
noncomputable def L38b_0 (K : Nat) : Lib := mkLib ti [(68, [e68a K, e68b K])] [] 38 []
theorem lib38b_0 (K : Nat) : LibOk Tryz.prog (L38b_0 K) := libOk_mk (ents := [(68, [e68a K, e68b K])]) (bodies := []) (loops := []) order tiOk ⟨more_ent (e68a_ok K) (one_ent (e68b_ok K)), trivial⟩ trivial Tryz.func38 rfl lp38 trivial
noncomputable def implf38b (K : Nat) (x1 : Unit) : Option (Int) :=
  (ob (implf68b K x1) fun y1 => some (y1.2.2.2.2.2.2.1))
theorem q38b (K : Nat) (x1 : Unit) : evFnK (α := Int) (L38b_0 K) 3 38 Tryz.f38.results.toList (codeOf Tryz.f38) ins38b res38b (fun p => p.1) (x1, ()) = implf38b K x1 := by kernel_rfl
noncomputable def e38b (K : Nat) : Ent := ⟨ins38b, res38b, Int, fun x => implf38b K x.1, fun _ => (fun y => (y, (()))), false⟩
theorem e38b_ok (K : Nat) : EntOk Tryz.prog 38 (e38b K) := entOk_k (ins := ins38b) (rs := res38b) (α := Int) (lib38b_0 K) (d := 3) Tryz.func38 rfl (by kernel_rfl) (by kernel_rfl) (by kernel_rfl) (fun x => implf38b K x.1) (fun p => p.1) (fun y => (y, (()))) (fun _ => rfl) (fun x => q38b K x.1)

/-! (*diaphone/station.Station).Missed -/
abbrev ins59a : Fs := [(.box (.dat (.pr (.pr (.int .i32) (.int .u32)) (.pr (.sl (.int .i64)) (.pr (.sl (.int .i64)) (.pr (.pr (.sl (.arr 2 (.int .i64))) (.sl (.int .i64))) (.pr (.int .i64) (.pr (.bool) (.pr (.int .i64) (.pr (.int .i64) (.pr (.int .i64) (.pr (.int .i64) (.pr (.int .i64) (.pr (.int .i64) (.pr (.int .i64) (.pr (.int .i64) (.pr (.int .i64) (.pr (.int .i64) (.sl (.str))))))))))))))))))), false)]
abbrev res59a : Sh := .dat (.int .i64)
theorem lp59 : loopsIn (codeOf Tryz.f59) 0 = [] := by kernel_rfl
noncomputable def L59a_0 (K : Nat) : Lib := mkLib ti [(68, [e68a K, e68b K])] [] 59 []
theorem lib59a_0 (K : Nat) : LibOk Tryz.prog (L59a_0 K) := libOk_mk (ents := [(68, [e68a K, e68b K])]) (bodies := []) (loops := []) order tiOk ⟨more_ent (e68a_ok K) (one_ent (e68b_ok K)), trivial⟩ trivial Tryz.func59 rfl lp59 trivial
noncomputable def implf59a (K : Nat) (x1 : STN) : Option (Int) :=
  (ob (implf68a K x1) fun y1 => some (y1.2.2.2.2.2.2.2.1))
theorem q59a (K : Nat) (x1 : STN) : evFnK (α := Int) (L59a_0 K) 3 59 Tryz.f59.results.toList (codeOf Tryz.f59) ins59a res59a (fun p => p.1) (x1, ()) = implf59a K x1 := by kernel_rfl
noncomputable def e59a (K : Nat) : Ent := ⟨ins59a, res59a, Int, fun x => implf59a K x.1, fun _ => (fun y => (y, (()))), false⟩
theorem e59a_ok (K : Nat) : EntOk Tryz.prog 59 (e59a K) := entOk_k (ins := ins59a) (rs := res59a) (α := Int) (lib59a_0 K) (d := 3) Tryz.func59 rfl (by kernel_rfl) (by kernel_rfl) (by kernel_rfl) (fun x => implf59a K x.1) (fun p => p.1) (fun y => (y, (()))) (fun _ => rfl) (fun x => q59a K x.1)

abbrev ins59b : Fs := [(.dat .np, false)]
abbrev res59b : Sh := .dat (.int .i64)
noncomputable def L59b_0 (K : Nat) : Lib := mkLib ti [(68, [e68a K, e68b K])] [] 59 []
theorem lib59b_0 (K : Nat) : LibOk Tryz.prog (L59b_0 K) := libOk_mk (ents := [(68, [e68a K, e68b K])]) (bodies := []) (loops := []) order tiOk ⟨more_ent (e68a_ok K) (one_ent (e68b_ok K)), trivial⟩ trivial Tryz.func59 rfl lp59 trivial
noncomputable def implf59b (K : Nat) (x1 : Unit) : Option (Int) :=
  (ob (implf68b K x1) fun y1 => some (y1.2.2.2.2.2.2.2.1))
theorem q59b (K : Nat) (x1 : Unit) : evFnK (α := Int) (L59b_0 K) 3 59 Tryz.f59.results.toList (codeOf Tryz.f59) ins59b res59b (fun p => p.1) (x1, ()) = implf59b K x1 := by kernel_rfl
noncomputable def e59b (K : Nat) : Ent := ⟨ins59b, res59b, Int, fun x => implf59b K x.1, fun _ => (fun y => (y, (()))), false⟩
theorem e59b_ok (K : Nat) : EntOk Tryz.prog 59 (e59b K) := entOk_k (ins := ins59b) (rs := res59b) (α := Int) (lib59b_0 K) (d := 3) Tryz.func59 rfl (by kernel_rfl) (by kernel_rfl) (by kernel_rfl) (fun x => implf59b K x.1) (fun p => p.1) (fun y => (y, (()))) (fun _ => rfl) (fun x => q59b K x.1)

/-! diaphone/diaphonelaw09.sane -/
abbrev ins27 : Fs := []
abbrev res27 : Sh := .dat (.bool)
theorem lp27 : loopsIn (codeOf Tryz.f27) 0 = [(0, loopOf 0 (codeOf Tryz.f27))] := by kernel_rfl
noncomputable def L27_0 (K : Nat) : Lib := mkLibR ti [(22, [e22 K]), (31, [e31a K, e31b K]), (33, [e33a K, e33b K]), (37, [e37a K, e37b K]), (38, [e38a K, e38b K]), (50, [e50a K, e50b K]), (59, [e59a K, e59b K])] [(69, Tryz.f69)] 27 [] [] [] [] [50]
theorem lib27_0 (K : Nat) : LibOk Tryz.prog (L27_0 K) := libOk_mkR (ents := [(22, [e22 K]), (31, [e31a K, e31b K]), (33, [e33a K, e33b K]), (37, [e37a K, e37b K]), (38, [e38a K, e38b K]), (50, [e50a K, e50b K]), (59, [e59a K, e59b K])]) (bodies := [(69, Tryz.f69)]) (loops := []) order tiOk ⟨one_ent (e22_ok K), more_ent (e31a_ok K) (one_ent (e31b_ok K)), more_ent (e33a_ok K) (one_ent (e33b_ok K)), more_ent (e37a_ok K) (one_ent (e37b_ok K)), more_ent (e38a_ok K) (one_ent (e38b_ok K)), more_ent (e50a_ok K) (one_ent (e50b_ok K)), more_ent (e59a_ok K) (one_ent (e59b_ok K)), trivial⟩ ⟨bod69, trivial⟩ Tryz.func27 rfl lp27 ⟨no_lent, trivial⟩ (rngs := []) trivial (frz := []) (opts := []) trivial
abbrev i27_0 : Fs := [(.box (.dat (.pr (.pr (.int Go.IntKind.i32) (.int Go.IntKind.u32)) (.pr (.sl (.int Go.IntKind.i64)) (.pr (.sl (.int Go.IntKind.i64)) (.pr (.pr (.sl (.arr 2 (.int Go.IntKind.i64))) (.sl (.int Go.IntKind.i64))) (.pr (.int Go.IntKind.i64) (.pr (.bool) (.pr (.int Go.IntKind.i64) (.pr (.int Go.IntKind.i64) (.pr (.int Go.IntKind.i64) (.pr (.int Go.IntKind.i64) (.pr (.int Go.IntKind.i64) (.pr (.int Go.IntKind.i64) (.pr (.int Go.IntKind.i64) (.pr (.int Go.IntKind.i64) (.pr (.int Go.IntKind.i64) (.pr (.int Go.IntKind.i64) (.sl (.str))))))))))))))))))), true), (.own (.str), false), (.own (.int Go.IntKind.i64), false), (.dat (.int Go.IntKind.i64), true)]
noncomputable def implb27_0 (K : Nat) (rc : STN → (List ByteArray) → (List Int) → Int → Option (Sum (STN × Int × Unit) Bool)) (x1 : STN) (x2 : (List ByteArray)) (x3 : (List Int)) (x4 : Int) : Option (Sum (STN × Int × Unit) Bool) :=
  (bif decide (x4 < (↑x2.length : Int)) then (if (0 : Int) ≤ x4 ∧ x4 < (↑x2.length : Int) then (ob (implf31a K x1 (x2.getD x4.toNat ByteArray.empty)) fun y1 => (if (0 : Int) ≤ x4 ∧ x4 < (↑x3.length : Int) then (bif y1.1 != x3.getD x4.toNat ((0 : Int)) then some (Sum.inr false) else (rc y1.2 x2 x3 (IntKind.i64.wrap (x4 + (1 : Int))))) else none)) else none) else some (Sum.inl (x1, x4, ())))
noncomputable def impll27_0 (K : Nat) : Nat → STN → (List ByteArray) → (List Int) → Int → Option (Sum (STN × Int × Unit) Bool)
  | 0, _, _, _, _ => none
  | k + 1, x1, x2, x3, x4 => implb27_0 K (impll27_0 K k) x1 x2 x3 x4
noncomputable def n27_0 (K : Nat) : Lent := ⟨[2, 4, 5, 6], i27_0, [28, 29, 30, 31, 34, 35, 36, 37, 38, 39, 40, 41, 42, 43, 44, 0, 32, 33], [0], true, res27, fun x => impll27_0 K K x.1 x.2.1 x.2.2.1 x.2.2.2.1, [], none⟩
theorem q27_0 (K : Nat) (rc : STN → (List ByteArray) → (List Int) → Int → Option (Sum (STN × Int × Unit) Bool)) (x1 : STN) (x2 : (List ByteArray)) (x3 : (List Int)) (x4 : Int) : evLoop (L27_0 K) 3 27 Tryz.f27.results.toList (loopOf 0 (codeOf Tryz.f27)) 0 [2, 4, 5, 6] [] i27_0 [0] true res27 (fun x => rc x.1 x.2.1 x.2.2.1 x.2.2.2.1) (x1, x2, x3, x4, ()) = implb27_0 K rc x1 x2 x3 x4 := by kernel_rfl
theorem lp27_0 : loopsIn (loopOf 0 (codeOf Tryz.f27)) 0 = [] := by kernel_rfl
theorem n27_0_ok (K : Nat) : LentOk Tryz.prog Tryz.f27 (loopOf 0 (codeOf Tryz.f27)) (n27_0 K) := lentOk_kR (slots := [2, 4, 5, 6]) (ali := []) (ins := i27_0) (writes := [28, 29, 30, 31, 34, 35, 36, 37, 38, 39, 40, 41, 42, 43, 44, 0, 32, 33]) (exits := [0]) (rets := true) (rs := res27) (d := 3) (lib27_0 K) Tryz.func27 rfl (.inl (by kernel_rfl)) lp27_0 trivial (by kernel_rfl) (by kernel_rfl) (by kernel_rfl) (by kernel_rfl) (by kernel_rfl) (fun k x => impll27_0 K k x.1 x.2.1 x.2.2.1 x.2.2.2.1) (fun _ => rfl) (fun k x => q27_0 K (impll27_0 K k) x.1 x.2.1 x.2.2.1 x.2.2.2.1) K
noncomputable def L27_1 (K : Nat) : Lib := mkLibR ti [(22, [e22 K]), (31, [e31a K, e31b K]), (33, [e33a K, e33b K]), (37, [e37a K, e37b K]), (38, [e38a K, e38b K]), (50, [e50a K, e50b K]), (59, [e59a K, e59b K])] [(69, Tryz.f69)] 27 [(0, [n27_0 K])] [] [] [] [50]
theorem lib27_1 (K : Nat) : LibOk Tryz.prog (L27_1 K) := libOk_mkR (ents := [(22, [e22 K]), (31, [e31a K, e31b K]), (33, [e33a K, e33b K]), (37, [e37a K, e37b K]), (38, [e38a K, e38b K]), (50, [e50a K, e50b K]), (59, [e59a K, e59b K])]) (bodies := [(69, Tryz.f69)]) (loops := [(0, [n27_0 K])]) order tiOk ⟨one_ent (e22_ok K), more_ent (e31a_ok K) (one_ent (e31b_ok K)), more_ent (e33a_ok K) (one_ent (e33b_ok K)), more_ent (e37a_ok K) (one_ent (e37b_ok K)), more_ent (e38a_ok K) (one_ent (e38b_ok K)), more_ent (e50a_ok K) (one_ent (e50b_ok K)), more_ent (e59a_ok K) (one_ent (e59b_ok K)), trivial⟩ ⟨bod69, trivial⟩ Tryz.func27 rfl lp27 ⟨one_lent (n27_0_ok K), trivial⟩ (rngs := []) trivial (frz := []) (opts := []) trivial
noncomputable def implf27 (K : Nat)  : Option (Bool) :=
  (oel (implf50a K ((((List.replicate 3 ((0 : Int))).set 0 ((1 : Int))).set 1 ((1 : Int))).set 2 ((0 : Int))) (((List.replicate 2 ((0 : Int))).set 0 ((3 : Int))).set 1 ((5 : Int))) (((List.replicate 2 (List.replicate 2 ((0 : Int)))).set 0 (((List.replicate 2 ((0 : Int))).set 0 ((0 : Int))).set 1 ((1 : Int)))).set 1 (((List.replicate 2 ((0 : Int))).set 0 ((0 : Int))).set 1 ((1 : Int))), ((List.replicate 2 ((0 : Int))).set 0 ((0 : Int))).set 1 ((1 : Int)))) (ob (implf50b K ((((List.replicate 3 ((0 : Int))).set 0 ((1 : Int))).set 1 ((1 : Int))).set 2 ((0 : Int))) (((List.replicate 2 ((0 : Int))).set 0 ((3 : Int))).set 1 ((5 : Int))) (((List.replicate 2 (List.replicate 2 ((0 : Int)))).set 0 (((List.replicate 2 ((0 : Int))).set 0 ((0 : Int))).set 1 ((1 : Int)))).set 1 (((List.replicate 2 ((0 : Int))).set 0 ((0 : Int))).set 1 ((1 : Int))), ((List.replicate 2 ((0 : Int))).set 0 ((0 : Int))).set 1 ((1 : Int)))) fun y1 => (bif y1.2 != (0 : Int) then some (false) else (ob (impll27_0 K K y1.1 (((((((((List.replicate 8 ByteArray.empty).set 0 (ByteArray.mk #[(112 : UInt8), (117 : UInt8), (109 : UInt8), (112 : UInt8), (32 : UInt8), (53 : UInt8)])).set 1 (ByteArray.mk #[(102 : UInt8), (111 : UInt8), (103 : UInt8)])).set 2 (ByteArray.mk #[(119 : UInt8), (97 : UInt8), (105 : UInt8), (116 : UInt8), (32 : UInt8), (51 : UInt8)])).set 3 (ByteArray.mk #[(115 : UInt8), (116 : UInt8), (111 : UInt8), (99 : UInt8), (107 : UInt8), (32 : UInt8), (52 : UInt8)])).set 4 (ByteArray.mk #[(102 : UInt8), (105 : UInt8), (114 : UInt8), (101 : UInt8), (32 : UInt8), (56 : UInt8)])).set 5 (ByteArray.mk #[(102 : UInt8), (105 : UInt8), (114 : UInt8), (101 : UInt8), (32 : UInt8), (55 : UInt8)])).set 6 (ByteArray.mk #[(102 : UInt8), (105 : UInt8), (114 : UInt8), (101 : UInt8), (32 : UInt8), (57 : UInt8)])).set 7 (ByteArray.mk #[(102 : UInt8), (105 : UInt8), (114 : UInt8), (101 : UInt8), (32 : UInt8), (49 : UInt8), (56 : UInt8)])) (((((((((List.replicate 8 ((0 : Int))).set 0 ((0 : Int))).set 1 ((0 : Int))).set 2 ((0 : Int))).set 3 ((0 : Int))).set 4 ((0 : Int))).set 5 ((6 : Int))).set 6 ((10 : Int))).set 7 ((10 : Int))) ((0 : Int))) fun y2 => (match y2 with | .inl y3 => (ob (implf22 K ((List.replicate 1 ByteArray.empty).set 0 (ByteArray.mk #[(102 : UInt8), (111 : UInt8), (103 : UInt8)]))) fun y4 => (ob (implf38a K y3.1) fun y5 => (bif y5 == (2 : Int) then (ob (implf59a K y3.1) fun y6 => (bif y6 == (1 : Int) then (ob (implf37a K y3.1) fun y7 => (bif y7 == (1 : Int) then (ob (implf33a K y3.1) fun y8 => (bif y8 == (2 : Int) then (bif y4.2 == (0 : Int) then some (y4.1.toList == (ByteArray.mk #[(56 : UInt8), (51 : UInt8), (49 : UInt8), (57 : UInt8), (49 : UInt8), (55 : UInt8), (32 : UInt8), (102 : UInt8), (111 : UInt8), (103 : UInt8), (10 : UInt8)]).toList) else some (false)) else some (false))) else some (false))) else some (false))) else some (false)))) | .inr y3 => some (y3))))) fun y9 => (bif y9.2 != (0 : Int) then some (false) else some (false)))
theorem q27 (K : Nat)  : evFnK (α := Bool) (L27_1 K) 3 27 Tryz.f27.results.toList (codeOf Tryz.f27) ins27 res27 (fun p => p.1) (()) = implf27 K  := by kernel_rfl
noncomputable def e27 (K : Nat) : Ent := ⟨ins27, res27, Bool, fun x => implf27 K , fun _ => (fun y => (y, (()))), false⟩
theorem e27_ok (K : Nat) : EntOk Tryz.prog 27 (e27 K) := entOk_k (ins := ins27) (rs := res27) (α := Bool) (lib27_1 K) (d := 3) Tryz.func27 rfl (by kernel_rfl) (by kernel_rfl) (by kernel_rfl) (fun x => implf27 K ) (fun p => p.1) (fun y => (y, (()))) (fun _ => rfl) (fun x => q27 K )

/-! diaphone/diaphoneref01.within -/
abbrev ins141 : Fs := [(.dat (.int .i64), false), (.dat (.int .i64), false), (.dat (.int .i64), false)]
abbrev res141 : Sh := .dat (.bool)
theorem lp141 : loopsIn (codeOf Tryz.f141) 0 = [] := by kernel_rfl
noncomputable def L141_0 (K : Nat) : Lib := mkLib ti [] [] 141 []
theorem lib141_0 (K : Nat) : LibOk Tryz.prog (L141_0 K) := libOk_mk (ents := []) (bodies := []) (loops := []) order tiOk trivial trivial Tryz.func141 rfl lp141 trivial
noncomputable def implf141 (K : Nat) (x1 : Int) (x2 : Int) (x3 : Int) : Option (Bool) :=
  (bif decide (x1 ≥ x2) then some (decide (x1 ≤ x3)) else some (false))
theorem q141 (K : Nat) (x1 : Int) (x2 : Int) (x3 : Int) : evFnK (α := Bool) (L141_0 K) 3 141 Tryz.f141.results.toList (codeOf Tryz.f141) ins141 res141 (fun p => p.1) (x1, x2, x3, ()) = implf141 K x1 x2 x3 := by kernel_rfl
noncomputable def e141 (K : Nat) : Ent := ⟨ins141, res141, Bool, fun x => implf141 K x.1 x.2.1 x.2.2.1, fun _ => (fun y => (y, (()))), false⟩
theorem e141_ok (K : Nat) : EntOk Tryz.prog 141 (e141 K) := entOk_k (ins := ins141) (rs := res141) (α := Bool) (lib141_0 K) (d := 3) Tryz.func141 rfl (by kernel_rfl) (by kernel_rfl) (by kernel_rfl) (fun x => implf141 K x.1 x.2.1 x.2.2.1) (fun p => p.1) (fun y => (y, (()))) (fun _ => rfl) (fun x => q141 K x.1 x.2.1 x.2.2.1)

/-! diaphone/diaphoneref01.bits -/
abbrev ins142 : Fs := [(.dat (.sl (.int .i64)), false)]
abbrev res142 : Sh := .dat (.bool)
theorem lp142 : loopsIn (codeOf Tryz.f142) 0 = [(0, loopOf 0 (codeOf Tryz.f142))] := by kernel_rfl
noncomputable def L142_0 (K : Nat) : Lib := mkLib ti [(141, [e141 K])] [] 142 []
theorem lib142_0 (K : Nat) : LibOk Tryz.prog (L142_0 K) := libOk_mk (ents := [(141, [e141 K])]) (bodies := []) (loops := []) order tiOk ⟨one_ent (e141_ok K), trivial⟩ trivial Tryz.func142 rfl lp142 ⟨no_lent, trivial⟩
abbrev i142_0 : Fs := [(.dat (.sl (.int Go.IntKind.i64)), false), (.dat (.int Go.IntKind.i64), true)]
noncomputable def implb142_0 (K : Nat) (rc : (List Int) → Int → Option (Sum (Int × Unit) Bool)) (x1 : (List Int)) (x2 : Int) : Option (Sum (Int × Unit) Bool) :=
  (bif decide (x2 < (↑x1.length : Int)) then (if (0 : Int) ≤ x2 ∧ x2 < (↑x1.length : Int) then (ob (implf141 K (x1.getD x2.toNat ((0 : Int))) ((0 : Int)) ((1 : Int))) fun y1 => (bif !y1 then some (Sum.inr false) else (rc x1 (IntKind.i64.wrap (x2 + (1 : Int)))))) else none) else some (Sum.inl (x2, ())))
noncomputable def impll142_0 (K : Nat) : Nat → (List Int) → Int → Option (Sum (Int × Unit) Bool)
  | 0, _, _ => none
  | k + 1, x1, x2 => implb142_0 K (impll142_0 K k) x1 x2
noncomputable def n142_0 (K : Nat) : Lent := ⟨[0, 3], i142_0, [4, 5, 6, 7, 10, 11, 12, 13, 14, 15, 2, 8, 9], [0], true, res142, fun x => impll142_0 K K x.1 x.2.1, [], none⟩
theorem q142_0 (K : Nat) (rc : (List Int) → Int → Option (Sum (Int × Unit) Bool)) (x1 : (List Int)) (x2 : Int) : evLoop (L142_0 K) 3 142 Tryz.f142.results.toList (loopOf 0 (codeOf Tryz.f142)) 0 [0, 3] [] i142_0 [0] true res142 (fun x => rc x.1 x.2.1) (x1, x2, ()) = implb142_0 K rc x1 x2 := by kernel_rfl
theorem lp142_0 : loopsIn (loopOf 0 (codeOf Tryz.f142)) 0 = [] := by kernel_rfl
theorem n142_0_ok (K : Nat) : LentOk Tryz.prog Tryz.f142 (loopOf 0 (codeOf Tryz.f142)) (n142_0 K) := lentOk_k (slots := [0, 3]) (ali := []) (ins := i142_0) (writes := [4, 5, 6, 7, 10, 11, 12, 13, 14, 15, 2, 8, 9]) (exits := [0]) (rets := true) (rs := res142) (d := 3) (lib142_0 K) lp142_0 trivial (by kernel_rfl) (by kernel_rfl) (by kernel_rfl) (by kernel_rfl) (by kernel_rfl) (fun k x => impll142_0 K k x.1 x.2.1) (fun _ => rfl) (fun k x => q142_0 K (impll142_0 K k) x.1 x.2.1) K
noncomputable def L142_1 (K : Nat) : Lib := mkLib ti [(141, [e141 K])] [] 142 [(0, [n142_0 K])]
theorem lib142_1 (K : Nat) : LibOk Tryz.prog (L142_1 K) := libOk_mk (ents := [(141, [e141 K])]) (bodies := []) (loops := [(0, [n142_0 K])]) order tiOk ⟨one_ent (e141_ok K), trivial⟩ trivial Tryz.func142 rfl lp142 ⟨one_lent (n142_0_ok K), trivial⟩
noncomputable def implf142 (K : Nat) (x1 : (List Int)) : Option (Bool) :=
  (ob (impll142_0 K K x1 ((0 : Int))) fun y1 => (match y1 with | .inl y2 => some (true) | .inr y2 => some (y2)))
theorem q142 (K : Nat) (x1 : (List Int)) : evFnK (α := Bool) (L142_1 K) 3 142 Tryz.f142.results.toList (codeOf Tryz.f142) ins142 res142 (fun p => p.1) (x1, ()) = implf142 K x1 := by kernel_rfl
noncomputable def e142 (K : Nat) : Ent := ⟨ins142, res142, Bool, fun x => implf142 K x.1, fun _ => (fun y => (y, (()))), false⟩
theorem e142_ok (K : Nat) : EntOk Tryz.prog 142 (e142 K) := entOk_k (ins := ins142) (rs := res142) (α := Bool) (lib142_1 K) (d := 3) Tryz.func142 rfl (by kernel_rfl) (by kernel_rfl) (by kernel_rfl) (fun x => implf142 K x.1) (fun p => p.1) (fun y => (y, (()))) (fun _ => rfl) (fun x => q142 K x.1)

/-! diaphone/diaphoneref01.Validate -/
abbrev ins112 : Fs := [(.dat (.sl (.int .i64)), false)]
abbrev res112 : Sh := .dat (.int .i64)
theorem lp112 : loopsIn (codeOf Tryz.f112) 0 = [] := by kernel_rfl
noncomputable def L112_0 (K : Nat) : Lib := mkLib ti [(141, [e141 K]), (142, [e142 K])] [] 112 []
theorem lib112_0 (K : Nat) : LibOk Tryz.prog (L112_0 K) := libOk_mk (ents := [(141, [e141 K]), (142, [e142 K])]) (bodies := []) (loops := []) order tiOk ⟨one_ent (e141_ok K), one_ent (e142_ok K), trivial⟩ trivial Tryz.func112 rfl lp112 trivial
noncomputable def implf112 (K : Nat) (x1 : (List Int)) : Option (Int) :=
  (ob (implf141 K ((↑x1.length : Int)) ((1 : Int)) ((24 : Int))) fun y1 => (bif !y1 then some ((3 : Int)) else (ob (implf142 K x1) fun y2 => (bif !y2 then some ((1 : Int)) else some ((0 : Int))))))
theorem q112 (K : Nat) (x1 : (List Int)) : evFnK (α := Int) (L112_0 K) 3 112 Tryz.f112.results.toList (codeOf Tryz.f112) ins112 res112 (fun p => p.1) (x1, ()) = implf112 K x1 := by kernel_rfl
noncomputable def e112 (K : Nat) : Ent := ⟨ins112, res112, Int, fun x => implf112 K x.1, fun _ => (fun y => (y, (()))), false⟩
theorem e112_ok (K : Nat) : EntOk Tryz.prog 112 (e112 K) := entOk_k (ins := ins112) (rs := res112) (α := Int) (lib112_0 K) (d := 3) Tryz.func112 rfl (by kernel_rfl) (by kernel_rfl) (by kernel_rfl) (fun x => implf112 K x.1) (fun p => p.1) (fun y => (y, (()))) (fun _ => rfl) (fun x => q112 K x.1)

/-! diaphone/diaphoneref01.Sounding -/
abbrev ins81 : Fs := [(.dat (.sl (.int .i64)), false)]
abbrev res81 : Sh := .cons (.dat (.int .i64)) (.cons (.dat (.int .i64)) (.un))
theorem lp81 : loopsIn (codeOf Tryz.f81) 0 = [(0, loopOf 0 (codeOf Tryz.f81))] := by kernel_rfl
noncomputable def L81_0 (K : Nat) : Lib := mkLib ti [(112, [e112 K])] [] 81 []
theorem lib81_0 (K : Nat) : LibOk Tryz.prog (L81_0 K) := libOk_mk (ents := [(112, [e112 K])]) (bodies := []) (loops := []) order tiOk ⟨one_ent (e112_ok K), trivial⟩ trivial Tryz.func81 rfl lp81 ⟨no_lent, trivial⟩
abbrev i81_0 : Fs := [(.dat (.sl (.int Go.IntKind.i64)), false), (.dat (.int Go.IntKind.i64), true), (.dat (.int Go.IntKind.i64), true)]
noncomputable def implb81_0 (K : Nat) (rc : (List Int) → Int → Int → Option (Int × Int × Unit)) (x1 : (List Int)) (x2 : Int) (x3 : Int) : Option (Int × Int × Unit) :=
  (bif decide (x3 < (↑x1.length : Int)) then (if (0 : Int) ≤ x3 ∧ x3 < (↑x1.length : Int) then (rc x1 (IntKind.i64.wrap (x2 + x1.getD x3.toNat ((0 : Int)))) (IntKind.i64.wrap (x3 + (1 : Int)))) else none) else some ((x2, x3, ())))
noncomputable def impll81_0 (K : Nat) : Nat → (List Int) → Int → Int → Option (Int × Int × Unit)
  | 0, _, _, _ => none
  | k + 1, x1, x2, x3 => implb81_0 K (impll81_0 K k) x1 x2 x3
noncomputable def n81_0 (K : Nat) : Lent := ⟨[0, 5, 6], i81_0, [12, 13, 14, 15, 18, 19, 20, 21, 22, 23, 16, 17], [0], false, res81, fun x => impll81_0 K K x.1 x.2.1 x.2.2.1, [], none⟩
theorem q81_0 (K : Nat) (rc : (List Int) → Int → Int → Option (Int × Int × Unit)) (x1 : (List Int)) (x2 : Int) (x3 : Int) : evLoop (L81_0 K) 3 81 Tryz.f81.results.toList (loopOf 0 (codeOf Tryz.f81)) 0 [0, 5, 6] [] i81_0 [0] false res81 (fun x => rc x.1 x.2.1 x.2.2.1) (x1, x2, x3, ()) = implb81_0 K rc x1 x2 x3 := by kernel_rfl
theorem lp81_0 : loopsIn (loopOf 0 (codeOf Tryz.f81)) 0 = [] := by kernel_rfl
theorem n81_0_ok (K : Nat) : LentOk Tryz.prog Tryz.f81 (loopOf 0 (codeOf Tryz.f81)) (n81_0 K) := lentOk_k (slots := [0, 5, 6]) (ali := []) (ins := i81_0) (writes := [12, 13, 14, 15, 18, 19, 20, 21, 22, 23, 16, 17]) (exits := [0]) (rets := false) (rs := res81) (d := 3) (lib81_0 K) lp81_0 trivial (by kernel_rfl) (by kernel_rfl) (by kernel_rfl) (by kernel_rfl) (by kernel_rfl) (fun k x => impll81_0 K k x.1 x.2.1 x.2.2.1) (fun _ => rfl) (fun k x => q81_0 K (impll81_0 K k) x.1 x.2.1 x.2.2.1) K
noncomputable def L81_1 (K : Nat) : Lib := mkLib ti [(112, [e112 K])] [] 81 [(0, [n81_0 K])]
theorem lib81_1 (K : Nat) : LibOk Tryz.prog (L81_1 K) := libOk_mk (ents := [(112, [e112 K])]) (bodies := []) (loops := [(0, [n81_0 K])]) order tiOk ⟨one_ent (e112_ok K), trivial⟩ trivial Tryz.func81 rfl lp81 ⟨one_lent (n81_0_ok K), trivial⟩
noncomputable def implf81 (K : Nat) (x1 : (List Int)) : Option (Int × Int) :=
  (ob (implf112 K x1) fun y1 => (bif y1 != (0 : Int) then some (((0 : Int), y1)) else (ob (impll81_0 K K x1 ((0 : Int)) ((0 : Int))) fun y2 => some ((y2.1, (0 : Int))))))
theorem q81 (K : Nat) (x1 : (List Int)) : evFnK (α := Int × Int) (L81_1 K) 3 81 Tryz.f81.results.toList (codeOf Tryz.f81) ins81 res81 (fun p => (p.1.1, p.1.2.1)) (x1, ()) = implf81 K x1 := by kernel_rfl
noncomputable def e81 (K : Nat) : Ent := ⟨ins81, res81, Int × Int, fun x => implf81 K x.1, fun _ => (fun y => ((y.1, y.2, ()), (()))), false⟩
theorem e81_ok (K : Nat) : EntOk Tryz.prog 81 (e81 K) := entOk_k (ins := ins81) (rs := res81) (α := Int × Int) (lib81_1 K) (d := 3) Tryz.func81 rfl (by kernel_rfl) (by kernel_rfl) (by kernel_rfl) (fun x => implf81 K x.1) (fun p => (p.1.1, p.1.2.1)) (fun y => ((y.1, y.2, ()), (()))) (fun _ => rfl) (fun x => q81 K x.1)

/-! diaphone/diaphoneref07.within -/
abbrev ins113 : Fs := [(.dat (.int .i64), false), (.dat (.int .i64), false), (.dat (.int .i64), false)]
abbrev res113 : Sh := .dat (.bool)
theorem lp113 : loopsIn (codeOf Tryz.f113) 0 = [] := by kernel_rfl
noncomputable def L113_0 (K : Nat) : Lib := mkLib ti [] [] 113 []
theorem lib113_0 (K : Nat) : LibOk Tryz.prog (L113_0 K) := libOk_mk (ents := []) (bodies := []) (loops := []) order tiOk trivial trivial Tryz.func113 rfl lp113 trivial
noncomputable def implf113 (K : Nat) (x1 : Int) (x2 : Int) (x3 : Int) : Option (Bool) :=
  (bif decide (x1 ≥ x2) then some (decide (x1 ≤ x3)) else some (false))
theorem q113 (K : Nat) (x1 : Int) (x2 : Int) (x3 : Int) : evFnK (α := Bool) (L113_0 K) 3 113 Tryz.f113.results.toList (codeOf Tryz.f113) ins113 res113 (fun p => p.1) (x1, x2, x3, ()) = implf113 K x1 x2 x3 := by kernel_rfl
noncomputable def e113 (K : Nat) : Ent := ⟨ins113, res113, Bool, fun x => implf113 K x.1 x.2.1 x.2.2.1, fun _ => (fun y => (y, (()))), false⟩
theorem e113_ok (K : Nat) : EntOk Tryz.prog 113 (e113 K) := entOk_k (ins := ins113) (rs := res113) (α := Bool) (lib113_0 K) (d := 3) Tryz.func113 rfl (by kernel_rfl) (by kernel_rfl) (by kernel_rfl) (fun x => implf113 K x.1 x.2.1 x.2.2.1) (fun p => p.1) (fun y => (y, (()))) (fun _ => rfl) (fun x => q113 K x.1 x.2.1 x.2.2.1)

/-! diaphone/diaphoneref07.Validate -/
abbrev ins82 : Fs := [(.dat (.sl (.int .i64)), false)]
abbrev res82 : Sh := .dat (.int .i64)
theorem lp82 : loopsIn (codeOf Tryz.f82) 0 = [(0, loopOf 0 (codeOf Tryz.f82))] := by kernel_rfl
noncomputable def L82_0 (K : Nat) : Lib := mkLib ti [(113, [e113 K])] [] 82 []
theorem lib82_0 (K : Nat) : LibOk Tryz.prog (L82_0 K) := libOk_mk (ents := [(113, [e113 K])]) (bodies := []) (loops := []) order tiOk ⟨one_ent (e113_ok K), trivial⟩ trivial Tryz.func82 rfl lp82 ⟨no_lent, trivial⟩
abbrev i82_0 : Fs := [(.dat (.sl (.int Go.IntKind.i64)), false), (.dat (.int Go.IntKind.i64), true)]
noncomputable def implb82_0 (K : Nat) (rc : (List Int) → Int → Option (Sum (Int × Unit) Int)) (x1 : (List Int)) (x2 : Int) : Option (Sum (Int × Unit) Int) :=
  (bif decide (x2 < (↑x1.length : Int)) then (if (0 : Int) ≤ x2 ∧ x2 < (↑x1.length : Int) then (ob (implf113 K (x1.getD x2.toNat ((0 : Int))) ((1 : Int)) ((30 : Int))) fun y1 => (bif !y1 then some (Sum.inr ((1 : Int))) else (bif decide (x2 > (0 : Int)) then (if (0 : Int) ≤ IntKind.i64.wrap (x2 - (1 : Int)) ∧ IntKind.i64.wrap (x2 - (1 : Int)) < (↑x1.length : Int) then (if (0 : Int) ≤ x2 ∧ x2 < (↑x1.length : Int) then (bif decide (x1.getD (IntKind.i64.wrap (x2 - (1 : Int))).toNat ((0 : Int)) ≥ x1.getD x2.toNat ((0 : Int))) then some (Sum.inr ((1 : Int))) else (rc x1 (IntKind.i64.wrap (x2 + (1 : Int))))) else none) else none) else (rc x1 (IntKind.i64.wrap (x2 + (1 : Int))))))) else none) else some (Sum.inl (x2, ())))
noncomputable def impll82_0 (K : Nat) : Nat → (List Int) → Int → Option (Sum (Int × Unit) Int)
  | 0, _, _ => none
  | k + 1, x1, x2 => implb82_0 K (impll82_0 K k) x1 x2
noncomputable def n82_0 (K : Nat) : Lent := ⟨[0, 3], i82_0, [8, 9, 10, 11, 14, 15, 16, 17, 18, 19, 20, 21, 22, 23, 24, 25, 26, 27, 28, 29, 30, 31, 32, 33, 34, 35, 2, 12, 13], [0], true, res82, fun x => impll82_0 K K x.1 x.2.1, [], none⟩
theorem q82_0 (K : Nat) (rc : (List Int) → Int → Option (Sum (Int × Unit) Int)) (x1 : (List Int)) (x2 : Int) : evLoop (L82_0 K) 3 82 Tryz.f82.results.toList (loopOf 0 (codeOf Tryz.f82)) 0 [0, 3] [] i82_0 [0] true res82 (fun x => rc x.1 x.2.1) (x1, x2, ()) = implb82_0 K rc x1 x2 := by kernel_rfl
theorem lp82_0 : loopsIn (loopOf 0 (codeOf Tryz.f82)) 0 = [] := by kernel_rfl
theorem n82_0_ok (K : Nat) : LentOk Tryz.prog Tryz.f82 (loopOf 0 (codeOf Tryz.f82)) (n82_0 K) := lentOk_k (slots := [0, 3]) (ali := []) (ins := i82_0) (writes := [8, 9, 10, 11, 14, 15, 16, 17, 18, 19, 20, 21, 22, 23, 24, 25, 26, 27, 28, 29, 30, 31, 32, 33, 34, 35, 2, 12, 13]) (exits := [0]) (rets := true) (rs := res82) (d := 3) (lib82_0 K) lp82_0 trivial (by kernel_rfl) (by kernel_rfl) (by kernel_rfl) (by kernel_rfl) (by kernel_rfl) (fun k x => impll82_0 K k x.1 x.2.1) (fun _ => rfl) (fun k x => q82_0 K (impll82_0 K k) x.1 x.2.1) K
noncomputable def L82_1 (K : Nat) : Lib := mkLib ti [(113, [e113 K])] [] 82 [(0, [n82_0 K])]
theorem lib82_1 (K : Nat) : LibOk Tryz.prog (L82_1 K) := libOk_mk (ents := [(113, [e113 K])]) (bodies := []) (loops := [(0, [n82_0 K])]) order tiOk ⟨one_ent (e113_ok K), trivial⟩ trivial Tryz.func82 rfl lp82 ⟨one_lent (n82_0_ok K), trivial⟩
noncomputable def implf82 (K : Nat) (x1 : (List Int)) : Option (Int) :=
  (ob (implf113 K ((↑x1.length : Int)) ((1 : Int)) ((4 : Int))) fun y1 => (bif !y1 then some ((3 : Int)) else (ob (impll82_0 K K x1 ((0 : Int))) fun y2 => (match y2 with | .inl y3 => some ((0 : Int)) | .inr y3 => some (y3)))))
theorem q82 (K : Nat) (x1 : (List Int)) : evFnK (α := Int) (L82_1 K) 3 82 Tryz.f82.results.toList (codeOf Tryz.f82) ins82 res82 (fun p => p.1) (x1, ()) = implf82 K x1 := by kernel_rfl
noncomputable def e82 (K : Nat) : Ent := ⟨ins82, res82, Int, fun x => implf82 K x.1, fun _ => (fun y => (y, (()))), false⟩
theorem e82_ok (K : Nat) : EntOk Tryz.prog 82 (e82 K) := entOk_k (ins := ins82) (rs := res82) (α := Int) (lib82_1 K) (d := 3) Tryz.func82 rfl (by kernel_rfl) (by kernel_rfl) (by kernel_rfl) (fun x => implf82 K x.1) (fun p => p.1) (fun y => (y, (()))) (fun _ => rfl) (fun x => q82 K x.1)

/-! diaphone/diaphoneref08.within -/
abbrev ins114 : Fs := [(.dat (.int .i64), false), (.dat (.int .i64), false), (.dat (.int .i64), false)]
abbrev res114 : Sh := .dat (.bool)
theorem lp114 : loopsIn (codeOf Tryz.f114) 0 = [] := by kernel_rfl
noncomputable def L114_0 (K : Nat) : Lib := mkLib ti [] [] 114 []
theorem lib114_0 (K : Nat) : LibOk Tryz.prog (L114_0 K) := libOk_mk (ents := []) (bodies := []) (loops := []) order tiOk trivial trivial Tryz.func114 rfl lp114 trivial
noncomputable def implf114 (K : Nat) (x1 : Int) (x2 : Int) (x3 : Int) : Option (Bool) :=
  (bif decide (x1 ≥ x2) then some (decide (x1 ≤ x3)) else some (false))
theorem q114 (K : Nat) (x1 : Int) (x2 : Int) (x3 : Int) : evFnK (α := Bool) (L114_0 K) 3 114 Tryz.f114.results.toList (codeOf Tryz.f114) ins114 res114 (fun p => p.1) (x1, x2, x3, ()) = implf114 K x1 x2 x3 := by kernel_rfl
noncomputable def e114 (K : Nat) : Ent := ⟨ins114, res114, Bool, fun x => implf114 K x.1 x.2.1 x.2.2.1, fun _ => (fun y => (y, (()))), false⟩
theorem e114_ok (K : Nat) : EntOk Tryz.prog 114 (e114 K) := entOk_k (ins := ins114) (rs := res114) (α := Bool) (lib114_0 K) (d := 3) Tryz.func114 rfl (by kernel_rfl) (by kernel_rfl) (by kernel_rfl) (fun x => implf114 K x.1 x.2.1 x.2.2.1) (fun p => p.1) (fun y => (y, (()))) (fun _ => rfl) (fun x => q114 K x.1 x.2.1 x.2.2.1)

/-! diaphone/diaphoneref08.Validate -/
abbrev ins83 : Fs := [(.dat (.pr (.sl (.arr 2 (.int .i64))) (.sl (.int .i64))), false)]
abbrev res83 : Sh := .dat (.int .i64)
theorem lp83 : loopsIn (codeOf Tryz.f83) 0 = [(0, loopOf 0 (codeOf Tryz.f83))] := by kernel_rfl
noncomputable def L83_0 (K : Nat) : Lib := mkLib ti [(114, [e114 K])] [] 83 []
theorem lib83_0 (K : Nat) : LibOk Tryz.prog (L83_0 K) := libOk_mk (ents := [(114, [e114 K])]) (bodies := []) (loops := []) order tiOk ⟨one_ent (e114_ok K), trivial⟩ trivial Tryz.func83 rfl lp83 ⟨no_lent, trivial⟩
abbrev i83_0 : Fs := [(.box (.dat (.pr (.sl (.arr 2 (.int Go.IntKind.i64))) (.sl (.int Go.IntKind.i64)))), false), (.dat (.int Go.IntKind.i64), false), (.dat (.int Go.IntKind.i64), true)]
noncomputable def implb83_0 (K : Nat) (rc : BOX → Int → Int → Option (Sum (Int × Unit) Int)) (x1 : BOX) (x2 : Int) (x3 : Int) : Option (Sum (Int × Unit) Int) :=
  (bif decide (x3 < x2) then (if (0 : Int) ≤ x3 ∧ x3 < (↑x1.2.length : Int) then (ob (implf114 K (x1.2.getD x3.toNat ((0 : Int))) ((0 : Int)) ((3 : Int))) fun y1 => (bif !y1 then some (Sum.inr ((1 : Int))) else (if (0 : Int) ≤ x3 ∧ x3 < (↑x1.1.length : Int) then (ob (implf114 K ((x1.1.getD x3.toNat (List.replicate 2 ((0 : Int)))).getD (0) ((0 : Int))) ((0 : Int)) (IntKind.i64.wrap (x2 - (1 : Int)))) fun y2 => (bif !y2 then some (Sum.inr ((1 : Int))) else (if (0 : Int) ≤ x3 ∧ x3 < (↑x1.1.length : Int) then (ob (implf114 K ((x1.1.getD x3.toNat (List.replicate 2 ((0 : Int)))).getD (1) ((0 : Int))) ((0 : Int)) (IntKind.i64.wrap (x2 - (1 : Int)))) fun y3 => (bif !y3 then some (Sum.inr ((1 : Int))) else (rc x1 x2 (IntKind.i64.wrap (x3 + (1 : Int)))))) else none))) else none))) else none) else some (Sum.inl (x3, ())))
noncomputable def impll83_0 (K : Nat) : Nat → BOX → Int → Int → Option (Sum (Int × Unit) Int)
  | 0, _, _, _ => none
  | k + 1, x1, x2, x3 => implb83_0 K (impll83_0 K k) x1 x2 x3
noncomputable def n83_0 (K : Nat) : Lent := ⟨[1, 3, 4], i83_0, [18, 19, 20, 23, 24, 25, 26, 27, 28, 29, 30, 31, 32, 33, 34, 35, 36, 37, 38, 39, 40, 41, 42, 43, 44, 45, 46, 47, 48, 49, 50, 51, 52, 53, 2, 21, 22], [0], true, res83, fun x => impll83_0 K K x.1 x.2.1 x.2.2.1, [], none⟩
theorem q83_0 (K : Nat) (rc : BOX → Int → Int → Option (Sum (Int × Unit) Int)) (x1 : BOX) (x2 : Int) (x3 : Int) : evLoop (L83_0 K) 3 83 Tryz.f83.results.toList (loopOf 0 (codeOf Tryz.f83)) 0 [1, 3, 4] [] i83_0 [0] true res83 (fun x => rc x.1 x.2.1 x.2.2.1) (x1, x2, x3, ()) = implb83_0 K rc x1 x2 x3 := by kernel_rfl
theorem lp83_0 : loopsIn (loopOf 0 (codeOf Tryz.f83)) 0 = [] := by kernel_rfl
theorem n83_0_ok (K : Nat) : LentOk Tryz.prog Tryz.f83 (loopOf 0 (codeOf Tryz.f83)) (n83_0 K) := lentOk_k (slots := [1, 3, 4]) (ali := []) (ins := i83_0) (writes := [18, 19, 20, 23, 24, 25, 26, 27, 28, 29, 30, 31, 32, 33, 34, 35, 36, 37, 38, 39, 40, 41, 42, 43, 44, 45, 46, 47, 48, 49, 50, 51, 52, 53, 2, 21, 22]) (exits := [0]) (rets := true) (rs := res83) (d := 3) (lib83_0 K) lp83_0 trivial (by kernel_rfl) (by kernel_rfl) (by kernel_rfl) (by kernel_rfl) (by kernel_rfl) (fun k x => impll83_0 K k x.1 x.2.1 x.2.2.1) (fun _ => rfl) (fun k x => q83_0 K (impll83_0 K k) x.1 x.2.1 x.2.2.1) K
noncomputable def L83_1 (K : Nat) : Lib := mkLib ti [(114, [e114 K])] [] 83 [(0, [n83_0 K])]
theorem lib83_1 (K : Nat) : LibOk Tryz.prog (L83_1 K) := libOk_mk (ents := [(114, [e114 K])]) (bodies := []) (loops := [(0, [n83_0 K])]) order tiOk ⟨one_ent (e114_ok K), trivial⟩ trivial Tryz.func83 rfl lp83 ⟨one_lent (n83_0_ok K), trivial⟩
noncomputable def implf83 (K : Nat) (x1 : BOX) : Option (Int) :=
  (ob (implf114 K ((↑x1.2.length : Int)) ((1 : Int)) ((6 : Int))) fun y1 => (bif !y1 then some ((1 : Int)) else (bif (↑x1.1.length : Int) != (↑x1.2.length : Int) then some ((1 : Int)) else (ob (impll83_0 K K x1 ((↑x1.2.length : Int)) ((0 : Int))) fun y2 => (match y2 with | .inl y3 => some ((0 : Int)) | .inr y3 => some (y3))))))
theorem q83 (K : Nat) (x1 : BOX) : evFnK (α := Int) (L83_1 K) 3 83 Tryz.f83.results.toList (codeOf Tryz.f83) ins83 res83 (fun p => p.1) (x1, ()) = implf83 K x1 := by kernel_rfl
noncomputable def e83 (K : Nat) : Ent := ⟨ins83, res83, Int, fun x => implf83 K x.1, fun _ => (fun y => (y, (()))), false⟩
theorem e83_ok (K : Nat) : EntOk Tryz.prog 83 (e83 K) := entOk_k (ins := ins83) (rs := res83) (α := Int) (lib83_1 K) (d := 3) Tryz.func83 rfl (by kernel_rfl) (by kernel_rfl) (by kernel_rfl) (fun x => implf83 K x.1) (fun p => p.1) (fun y => (y, (()))) (fun _ => rfl) (fun x => q83 K x.1)

/-! diaphone/diaphoneref09.New -/
abbrev ins43a : Fs := [(.dat (.sl (.int .i64)), false), (.dat (.sl (.int .i64)), false), (.dat (.pr (.sl (.arr 2 (.int .i64))) (.sl (.int .i64))), false)]
abbrev res43a : Sh := .cons (.dat .np) (.cons (.dat (.int .i64)) (.un))
theorem lp43 : loopsIn (codeOf Tryz.f43) 0 = [] := by kernel_rfl
noncomputable def L43a_0 (K : Nat) : Lib := mkLib ti [(81, [e81 K]), (82, [e82 K]), (83, [e83 K])] [(49, Tryz.f49)] 43 []
theorem lib43a_0 (K : Nat) : LibOk Tryz.prog (L43a_0 K) := libOk_mk (ents := [(81, [e81 K]), (82, [e82 K]), (83, [e83 K])]) (bodies := [(49, Tryz.f49)]) (loops := []) order tiOk ⟨one_ent (e81_ok K), one_ent (e82_ok K), one_ent (e83_ok K), trivial⟩ ⟨bod49, trivial⟩ Tryz.func43 rfl lp43 trivial
noncomputable def implf43a (K : Nat) (x1 : (List Int)) (x2 : (List Int)) (x3 : BOX) : Option (Unit × Int) :=
  (ob (implf81 K x1) fun y1 => (bif y1.2 != (0 : Int) then some (((), y1.2)) else (ob (implf82 K x2) fun y2 => (bif y2 != (0 : Int) then some (((), y2)) else (ob (implf83 K x3) fun y3 => (bif y3 != (0 : Int) then some (((), y3)) else (if ((List.replicate 0 ((0 : Int))).length + x2.length) * 8 ≤ 140737488355328 then (if ((List.replicate 0 (List.replicate 2 ((0 : Int)))).length + x3.1.length) * 16 ≤ 140737488355328 then (if ((List.replicate 0 ((0 : Int))).length + x3.2.length) * 8 ≤ 140737488355328 then (bif (Nat.add 1 (Nat.add 2 (1 + 10))).succ.beq 15 && true then none else none) else none) else none) else none)))))))
theorem q43a (K : Nat) (x1 : (List Int)) (x2 : (List Int)) (x3 : BOX) : evFnK (α := Unit × Int) (L43a_0 K) 3 43 Tryz.f43.results.toList (codeOf Tryz.f43) ins43a res43a (fun p => (p.1.1, p.1.2.1)) (x1, x2, x3, ()) = implf43a K x1 x2 x3 := by kernel_rfl
noncomputable def e43a (K : Nat) : Ent := ⟨ins43a, res43a, Unit × Int, fun x => implf43a K x.1 x.2.1 x.2.2.1, fun _ => (fun y => ((y.1, y.2, ()), (()))), false⟩
theorem e43a_ok (K : Nat) : EntOk Tryz.prog 43 (e43a K) := entOk_k (ins := ins43a) (rs := res43a) (α := Unit × Int) (lib43a_0 K) (d := 3) Tryz.func43 rfl (by kernel_rfl) (by kernel_rfl) (by kernel_rfl) (fun x => implf43a K x.1 x.2.1 x.2.2.1) (fun p => (p.1.1, p.1.2.1)) (fun y => ((y.1, y.2, ()), (()))) (fun _ => rfl) (fun x => q43a K x.1 x.2.1 x.2.2.1)

abbrev ins43b : Fs := [(.dat (.sl (.int .i64)), false), (.dat (.sl (.int .i64)), false), (.dat (.pr (.sl (.arr 2 (.int .i64))) (.sl (.int .i64))), false)]
abbrev res43b : Sh := .cons (.box (.pr (.own (.int .i64)) (.pr (.pr (.own (.arr 2 (.int .i64))) (.own (.int .i64))) (.pr (.dat (.int .i64)) (.pr (.dat (.int .i64)) (.pr (.dat (.int .i64)) (.pr (.dat (.int .i64)) (.pr (.dat (.int .i64)) (.pr (.dat (.int .i64)) (.pr (.dat (.int .i64)) (.pr (.dat (.int .i64)) (.pr (.dat (.int .i64)) (.pr (.dat (.int .i64)) (.pr (.dat (.bool)) (.own (.str)))))))))))))))) (.cons (.dat (.int .i64)) (.un))
noncomputable def L43b_0 (K : Nat) : Lib := mkLib ti [(81, [e81 K]), (82, [e82 K]), (83, [e83 K])] [(49, Tryz.f49)] 43 []
theorem lib43b_0 (K : Nat) : LibOk Tryz.prog (L43b_0 K) := libOk_mk (ents := [(81, [e81 K]), (82, [e82 K]), (83, [e83 K])]) (bodies := [(49, Tryz.f49)]) (loops := []) order tiOk ⟨one_ent (e81_ok K), one_ent (e82_ok K), one_ent (e83_ok K), trivial⟩ ⟨bod49, trivial⟩ Tryz.func43 rfl lp43 trivial
noncomputable def implf43b (K : Nat) (x1 : (List Int)) (x2 : (List Int)) (x3 : BOX) : Option (REF × Int) :=
  (ob (implf81 K x1) fun y1 => (bif y1.2 != (0 : Int) then none else (ob (implf82 K x2) fun y2 => (bif y2 != (0 : Int) then none else (ob (implf83 K x3) fun y3 => (bif y3 != (0 : Int) then none else (if ((List.replicate 0 ((0 : Int))).length + x2.length) * 8 ≤ 140737488355328 then (if ((List.replicate 0 (List.replicate 2 ((0 : Int)))).length + x3.1.length) * 16 ≤ 140737488355328 then (if ((List.replicate 0 ((0 : Int))).length + x3.2.length) * 8 ≤ 140737488355328 then (bif (Nat.add 1 (Nat.add 2 (1 + 10))).succ.beq 15 && true then some (((List.replicate 0 ((0 : Int)) ++ x2, (List.replicate 0 (List.replicate 2 ((0 : Int))) ++ x3.1, List.replicate 0 ((0 : Int)) ++ x3.2), y1.1, (0 : Int), (0 : Int), (0 : Int), (0 : Int), (0 : Int), (0 : Int), (0 : Int), (0 : Int), (0 : Int), false, []), (0 : Int))) else none) else none) else none) else none)))))))
theorem q43b (K : Nat) (x1 : (List Int)) (x2 : (List Int)) (x3 : BOX) : evFnK (α := REF × Int) (L43b_0 K) 3 43 Tryz.f43.results.toList (codeOf Tryz.f43) ins43b res43b (fun p => (p.1.1, p.1.2.1)) (x1, x2, x3, ()) = implf43b K x1 x2 x3 := by kernel_rfl
noncomputable def e43b (K : Nat) : Ent := ⟨ins43b, res43b, REF × Int, fun x => implf43b K x.1 x.2.1 x.2.2.1, fun _ => (fun y => ((y.1, y.2, ()), (()))), false⟩
theorem e43b_ok (K : Nat) : EntOk Tryz.prog 43 (e43b K) := entOk_k (ins := ins43b) (rs := res43b) (α := REF × Int) (lib43b_0 K) (d := 3) Tryz.func43 rfl (by kernel_rfl) (by kernel_rfl) (by kernel_rfl) (fun x => implf43b K x.1 x.2.1 x.2.2.1) (fun p => (p.1.1, p.1.2.1)) (fun y => ((y.1, y.2, ()), (()))) (fun _ => rfl) (fun x => q43b K x.1 x.2.1 x.2.2.1)

/-! diaphone/diaphonelaw09.failed -/
abbrev ins29 : Fs := [(.dat (.pr (.sl (.int .i64)) (.pr (.sl (.int .i64)) (.pr (.sl (.arr 2 (.int .i64))) (.sl (.int .i64))))), false)]
abbrev res29 : Sh := .dat (.bool)
theorem lp29 : loopsIn (codeOf Tryz.f29) 0 = [] := by kernel_rfl
noncomputable def L29_0 (K : Nat) : Lib := mkLibR ti [(27, [e27 K]), (43, [e43a K, e43b K]), (50, [e50a K, e50b K])] [] 29 [] [] [] [] [43, 50]
theorem lib29_0 (K : Nat) : LibOk Tryz.prog (L29_0 K) := libOk_mkR (ents := [(27, [e27 K]), (43, [e43a K, e43b K]), (50, [e50a K, e50b K])]) (bodies := []) (loops := []) order tiOk ⟨one_ent (e27_ok K), more_ent (e43a_ok K) (one_ent (e43b_ok K)), more_ent (e50a_ok K) (one_ent (e50b_ok K)), trivial⟩ trivial Tryz.func29 rfl lp29 trivial (rngs := []) trivial (frz := []) (opts := []) trivial
noncomputable def implf29 (K : Nat) (x1 : KIT) : Option (Bool) :=
  (oel (implf50a K x1.1 x1.2.1 x1.2.2) (ob (implf50b K x1.1 x1.2.1 x1.2.2) fun y1 => (oel (implf43a K x1.1 x1.2.1 x1.2.2) (ob (implf43b K x1.1 x1.2.1 x1.2.2) fun y2 => (bif y1.2 == y2.2 then (bif y1.2 != (0 : Int) then (ob (implf27 K) fun y3 => some (y3)) else some (false)) else some (false))) fun y4 => (bif y1.2 == y4.2 then (bif y1.2 != (0 : Int) then (ob (implf27 K) fun y5 => some (y5)) else some (false)) else some (false)))) fun y6 => (oel (implf43a K x1.1 x1.2.1 x1.2.2) (ob (implf43b K x1.1 x1.2.1 x1.2.2) fun y7 => (bif y6.2 == y7.2 then (bif y6.2 != (0 : Int) then (ob (implf27 K) fun y8 => some (y8)) else some (false)) else some (false))) fun y9 => (bif y6.2 == y9.2 then (bif y6.2 != (0 : Int) then (ob (implf27 K) fun y10 => some (y10)) else some (false)) else some (false))))
theorem q29 (K : Nat) (x1 : KIT) : evFnK (α := Bool) (L29_0 K) 3 29 Tryz.f29.results.toList (codeOf Tryz.f29) ins29 res29 (fun p => p.1) (x1, ()) = implf29 K x1 := by kernel_rfl
noncomputable def e29 (K : Nat) : Ent := ⟨ins29, res29, Bool, fun x => implf29 K x.1, fun _ => (fun y => (y, (()))), false⟩
theorem e29_ok (K : Nat) : EntOk Tryz.prog 29 (e29 K) := entOk_k (ins := ins29) (rs := res29) (α := Bool) (lib29_0 K) (d := 3) Tryz.func29 rfl (by kernel_rfl) (by kernel_rfl) (by kernel_rfl) (fun x => implf29 K x.1) (fun p => p.1) (fun y => (y, (()))) (fun _ => rfl) (fun x => q29 K x.1)

/-! diaphone/diaphonelaw09.few -/
abbrev ins30 : Fs := [(.dat (.sl (.str)), false)]
abbrev res30 : Sh := .dat (.sl (.str))
theorem lp30 : loopsIn (codeOf Tryz.f30) 0 = [] := by kernel_rfl
noncomputable def L30_0 (K : Nat) : Lib := mkLib ti [] [] 30 []
theorem lib30_0 (K : Nat) : LibOk Tryz.prog (L30_0 K) := libOk_mk (ents := []) (bodies := []) (loops := []) order tiOk trivial trivial Tryz.func30 rfl lp30 trivial
noncomputable def implf30 (K : Nat) (x1 : (List ByteArray)) : Option ((List ByteArray)) :=
  (bif decide ((↑x1.length : Int) > (40 : Int)) then (if (0 : Int) ≤ (0 : Int) ∧ (0 : Int) ≤ (40 : Int) ∧ (40 : Int) ≤ (↑x1.length : Int) then (if ((List.replicate 0 ByteArray.empty).length + (List.take (40) x1).length) * 16 ≤ 140737488355328 then some (List.replicate 0 ByteArray.empty ++ List.take (40) x1) else none) else none) else some (x1))
theorem q30 (K : Nat) (x1 : (List ByteArray)) : evFnK (α := (List ByteArray)) (L30_0 K) 3 30 Tryz.f30.results.toList (codeOf Tryz.f30) ins30 res30 (fun p => p.1) (x1, ()) = implf30 K x1 := by kernel_rfl
noncomputable def e30 (K : Nat) : Ent := ⟨ins30, res30, (List ByteArray), fun x => implf30 K x.1, fun _ => (fun y => (y, (()))), false⟩
theorem e30_ok (K : Nat) : EntOk Tryz.prog 30 (e30 K) := entOk_k (ins := ins30) (rs := res30) (α := (List ByteArray)) (lib30_0 K) (d := 3) Tryz.func30 rfl (by kernel_rfl) (by kernel_rfl) (by kernel_rfl) (fun x => implf30 K x.1) (fun p => p.1) (fun y => (y, (()))) (fun _ => rfl) (fun x => q30 K x.1)

/-! (*diaphone/station.Station).Fired -/
abbrev ins34a : Fs := [(.box (.dat (.pr (.pr (.int .i32) (.int .u32)) (.pr (.sl (.int .i64)) (.pr (.sl (.int .i64)) (.pr (.pr (.sl (.arr 2 (.int .i64))) (.sl (.int .i64))) (.pr (.int .i64) (.pr (.bool) (.pr (.int .i64) (.pr (.int .i64) (.pr (.int .i64) (.pr (.int .i64) (.pr (.int .i64) (.pr (.int .i64) (.pr (.int .i64) (.pr (.int .i64) (.pr (.int .i64) (.pr (.int .i64) (.sl (.str))))))))))))))))))), false)]
abbrev res34a : Sh := .cons (.dat (.int .i64)) (.cons (.dat (.int .i64)) (.un))
theorem lp34 : loopsIn (codeOf Tryz.f34) 0 = [] := by kernel_rfl
noncomputable def L34a_0 (K : Nat) : Lib := mkLib ti [(68, [e68a K, e68b K])] [] 34 []
theorem lib34a_0 (K : Nat) : LibOk Tryz.prog (L34a_0 K) := libOk_mk (ents := [(68, [e68a K, e68b K])]) (bodies := []) (loops := []) order tiOk ⟨more_ent (e68a_ok K) (one_ent (e68b_ok K)), trivial⟩ trivial Tryz.func34 rfl lp34 trivial
noncomputable def implf34a (K : Nat) (x1 : STN) : Option (Int × Int) :=
  (ob (implf68a K x1) fun y1 => some ((y1.2.2.2.2.2.2.2.2.1, y1.2.2.2.2.2.2.2.2.2.1)))
theorem q34a (K : Nat) (x1 : STN) : evFnK (α := Int × Int) (L34a_0 K) 3 34 Tryz.f34.results.toList (codeOf Tryz.f34) ins34a res34a (fun p => (p.1.1, p.1.2.1)) (x1, ()) = implf34a K x1 := by kernel_rfl
noncomputable def e34a (K : Nat) : Ent := ⟨ins34a, res34a, Int × Int, fun x => implf34a K x.1, fun _ => (fun y => ((y.1, y.2, ()), (()))), false⟩
theorem e34a_ok (K : Nat) : EntOk Tryz.prog 34 (e34a K) := entOk_k (ins := ins34a) (rs := res34a) (α := Int × Int) (lib34a_0 K) (d := 3) Tryz.func34 rfl (by kernel_rfl) (by kernel_rfl) (by kernel_rfl) (fun x => implf34a K x.1) (fun p => (p.1.1, p.1.2.1)) (fun y => ((y.1, y.2, ()), (()))) (fun _ => rfl) (fun x => q34a K x.1)

abbrev ins34b : Fs := [(.dat .np, false)]
abbrev res34b : Sh := .cons (.dat (.int .i64)) (.cons (.dat (.int .i64)) (.un))
noncomputable def L34b_0 (K : Nat) : Lib := mkLib ti [(68, [e68a K, e68b K])] [] 34 []
theorem lib34b_0 (K : Nat) : LibOk Tryz.prog (L34b_0 K) := libOk_mk (ents := [(68, [e68a K, e68b K])]) (bodies := []) (loops := []) order tiOk ⟨more_ent (e68a_ok K) (one_ent (e68b_ok K)), trivial⟩ trivial Tryz.func34 rfl lp34 trivial
noncomputable def implf34b (K : Nat) (x1 : Unit) : Option (Int × Int) :=
  (ob (implf68b K x1) fun y1 => some ((y1.2.2.2.2.2.2.2.2.1, y1.2.2.2.2.2.2.2.2.2.1)))
theorem q34b (K : Nat) (x1 : Unit) : evFnK (α := Int × Int) (L34b_0 K) 3 34 Tryz.f34.results.toList (codeOf Tryz.f34) ins34b res34b (fun p => (p.1.1, p.1.2.1)) (x1, ()) = implf34b K x1 := by kernel_rfl
noncomputable def e34b (K : Nat) : Ent := ⟨ins34b, res34b, Int × Int, fun x => implf34b K x.1, fun _ => (fun y => ((y.1, y.2, ()), (()))), false⟩
theorem e34b_ok (K : Nat) : EntOk Tryz.prog 34 (e34b K) := entOk_k (ins := ins34b) (rs := res34b) (α := Int × Int) (lib34b_0 K) (d := 3) Tryz.func34 rfl (by kernel_rfl) (by kernel_rfl) (by kernel_rfl) (fun x => implf34b K x.1) (fun p => (p.1.1, p.1.2.1)) (fun y => ((y.1, y.2, ()), (()))) (fun _ => rfl) (fun x => q34b K x.1)

/-! (*diaphone/station.Station).Hour -/
abbrev ins56a : Fs := [(.box (.dat (.pr (.pr (.int .i32) (.int .u32)) (.pr (.sl (.int .i64)) (.pr (.sl (.int .i64)) (.pr (.pr (.sl (.arr 2 (.int .i64))) (.sl (.int .i64))) (.pr (.int .i64) (.pr (.bool) (.pr (.int .i64) (.pr (.int .i64) (.pr (.int .i64) (.pr (.int .i64) (.pr (.int .i64) (.pr (.int .i64) (.pr (.int .i64) (.pr (.int .i64) (.pr (.int .i64) (.pr (.int .i64) (.sl (.str))))))))))))))))))), false)]
abbrev res56a : Sh := .dat (.int .i64)
theorem lp56 : loopsIn (codeOf Tryz.f56) 0 = [] := by kernel_rfl
noncomputable def L56a_0 (K : Nat) : Lib := mkLib ti [(68, [e68a K, e68b K])] [] 56 []
theorem lib56a_0 (K : Nat) : LibOk Tryz.prog (L56a_0 K) := libOk_mk (ents := [(68, [e68a K, e68b K])]) (bodies := []) (loops := []) order tiOk ⟨more_ent (e68a_ok K) (one_ent (e68b_ok K)), trivial⟩ trivial Tryz.func56 rfl lp56 trivial
noncomputable def implf56a (K : Nat) (x1 : STN) : Option (Int) :=
  (ob (implf68a K x1) fun y1 => some (y1.1))
theorem q56a (K : Nat) (x1 : STN) : evFnK (α := Int) (L56a_0 K) 3 56 Tryz.f56.results.toList (codeOf Tryz.f56) ins56a res56a (fun p => p.1) (x1, ()) = implf56a K x1 := by kernel_rfl
noncomputable def e56a (K : Nat) : Ent := ⟨ins56a, res56a, Int, fun x => implf56a K x.1, fun _ => (fun y => (y, (()))), false⟩
theorem e56a_ok (K : Nat) : EntOk Tryz.prog 56 (e56a K) := entOk_k (ins := ins56a) (rs := res56a) (α := Int) (lib56a_0 K) (d := 3) Tryz.func56 rfl (by kernel_rfl) (by kernel_rfl) (by kernel_rfl) (fun x => implf56a K x.1) (fun p => p.1) (fun y => (y, (()))) (fun _ => rfl) (fun x => q56a K x.1)

abbrev ins56b : Fs := [(.dat .np, false)]
abbrev res56b : Sh := .dat (.int .i64)
noncomputable def L56b_0 (K : Nat) : Lib := mkLib ti [(68, [e68a K, e68b K])] [] 56 []
theorem lib56b_0 (K : Nat) : LibOk Tryz.prog (L56b_0 K) := libOk_mk (ents := [(68, [e68a K, e68b K])]) (bodies := []) (loops := []) order tiOk ⟨more_ent (e68a_ok K) (one_ent (e68b_ok K)), trivial⟩ trivial Tryz.func56 rfl lp56 trivial
noncomputable def implf56b (K : Nat) (x1 : Unit) : Option (Int) :=
  (ob (implf68b K x1) fun y1 => some (y1.1))
theorem q56b (K : Nat) (x1 : Unit) : evFnK (α := Int) (L56b_0 K) 3 56 Tryz.f56.results.toList (codeOf Tryz.f56) ins56b res56b (fun p => p.1) (x1, ()) = implf56b K x1 := by kernel_rfl
noncomputable def e56b (K : Nat) : Ent := ⟨ins56b, res56b, Int, fun x => implf56b K x.1, fun _ => (fun y => (y, (()))), false⟩
theorem e56b_ok (K : Nat) : EntOk Tryz.prog 56 (e56b K) := entOk_k (ins := ins56b) (rs := res56b) (α := Int) (lib56b_0 K) (d := 3) Tryz.func56 rfl (by kernel_rfl) (by kernel_rfl) (by kernel_rfl) (fun x => implf56b K x.1) (fun p => p.1) (fun y => (y, (()))) (fun _ => rfl) (fun x => q56b K x.1)

end Go.Proofs.YtbpjodikknbcoaaGreatDoor
