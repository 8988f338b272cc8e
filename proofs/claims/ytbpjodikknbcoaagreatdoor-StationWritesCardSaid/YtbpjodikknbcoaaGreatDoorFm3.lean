/- What the functions compute: printed by a program of this claim's author. -/
import Derived.Test.YtbpjodikknbcoaaGreatDoorFm2
set_option maxRecDepth 100000
set_option linter.unusedVariables false
set_option linter.unusedSimpArgs false
namespace Go.Proofs.YtbpjodikknbcoaaGreatDoor
open Go Go.Pv
/-! diaphone/diaphonelaw09.Long -/
abbrev ins26 : Fs := [(.dat (.sl (.str)), false)]
abbrev res26 : Sh := .dat (.bool)
theorem lp26 : loopsIn (codeOf Tryz.f26) 0 = [(0, loopOf 0 (codeOf Tryz.f26))] := by kernel_rfl
noncomputable def L26_0 (K : Nat) : Lib := mkLib ti [] [] 26 []
theorem lib26_0 (K : Nat) : LibOk Tryz.prog (L26_0 K) := libOk_mk (ents := []) (bodies := []) (loops := []) order tiOk trivial trivial Tryz.func26 rfl lp26 ⟨no_lent, trivial⟩
abbrev i26_0 : Fs := [(.dat (.sl (.str)), false), (.dat (.int Go.IntKind.i64), true)]
noncomputable def implb26_0 (K : Nat) (rc : (List ByteArray) → Int → Option (Sum (Int × Unit) Bool)) (x1 : (List ByteArray)) (x2 : Int) : Option (Sum (Int × Unit) Bool) :=
  (bif decide (x2 < (↑x1.length : Int)) then (if (0 : Int) ≤ x2 ∧ x2 < (↑x1.length : Int) then (bif decide ((↑(x1.getD x2.toNat ByteArray.empty).size : Int) > (400 : Int)) then some (Sum.inr true) else (rc x1 (IntKind.i64.wrap (x2 + (1 : Int))))) else none) else some (Sum.inl (x2, ())))
noncomputable def impll26_0 (K : Nat) : Nat → (List ByteArray) → Int → Option (Sum (Int × Unit) Bool)
  | 0, _, _ => none
  | k + 1, x1, x2 => implb26_0 K (impll26_0 K k) x1 x2
noncomputable def n26_0 (K : Nat) : Lent := ⟨[0, 3], i26_0, [4, 5, 6, 7, 10, 11, 12, 13, 14, 15, 2, 8, 9], [0], true, res26, fun x => impll26_0 K K x.1 x.2.1, [], none⟩
theorem q26_0 (K : Nat) (rc : (List ByteArray) → Int → Option (Sum (Int × Unit) Bool)) (x1 : (List ByteArray)) (x2 : Int) : evLoop (L26_0 K) 3 26 Tryz.f26.results.toList (loopOf 0 (codeOf Tryz.f26)) 0 [0, 3] [] i26_0 [0] true res26 (fun x => rc x.1 x.2.1) (x1, x2, ()) = implb26_0 K rc x1 x2 := by kernel_rfl
theorem lp26_0 : loopsIn (loopOf 0 (codeOf Tryz.f26)) 0 = [] := by kernel_rfl
theorem n26_0_ok (K : Nat) : LentOk Tryz.prog Tryz.f26 (loopOf 0 (codeOf Tryz.f26)) (n26_0 K) := lentOk_k (slots := [0, 3]) (ali := []) (ins := i26_0) (writes := [4, 5, 6, 7, 10, 11, 12, 13, 14, 15, 2, 8, 9]) (exits := [0]) (rets := true) (rs := res26) (d := 3) (lib26_0 K) lp26_0 trivial (by kernel_rfl) (by kernel_rfl) (by kernel_rfl) (by kernel_rfl) (by kernel_rfl) (fun k x => impll26_0 K k x.1 x.2.1) (fun _ => rfl) (fun k x => q26_0 K (impll26_0 K k) x.1 x.2.1) K
noncomputable def L26_1 (K : Nat) : Lib := mkLib ti [] [] 26 [(0, [n26_0 K])]
theorem lib26_1 (K : Nat) : LibOk Tryz.prog (L26_1 K) := libOk_mk (ents := []) (bodies := []) (loops := [(0, [n26_0 K])]) order tiOk trivial trivial Tryz.func26 rfl lp26 ⟨one_lent (n26_0_ok K), trivial⟩
noncomputable def implf26 (K : Nat) (x1 : (List ByteArray)) : Option (Bool) :=
  (ob (impll26_0 K K x1 ((0 : Int))) fun y1 => (match y1 with | .inl y2 => some (decide ((↑x1.length : Int) > (300 : Int))) | .inr y2 => some (y2)))
theorem q26 (K : Nat) (x1 : (List ByteArray)) : evFnK (α := Bool) (L26_1 K) 3 26 Tryz.f26.results.toList (codeOf Tryz.f26) ins26 res26 (fun p => p.1) (x1, ()) = implf26 K x1 := by kernel_rfl
noncomputable def e26 (K : Nat) : Ent := ⟨ins26, res26, Bool, fun x => implf26 K x.1, fun _ => (fun y => (y, (()))), false⟩
theorem e26_ok (K : Nat) : EntOk Tryz.prog 26 (e26 K) := entOk_k (ins := ins26) (rs := res26) (α := Bool) (lib26_1 K) (d := 3) Tryz.func26 rfl (by kernel_rfl) (by kernel_rfl) (by kernel_rfl) (fun x => implf26 K x.1) (fun p => p.1) (fun y => (y, (()))) (fun _ => rfl) (fun x => q26 K x.1)

/-! (*diaphone/station.Station).Stock -/
abbrev ins33a : Fs := [(.box (.dat (.pr (.pr (.int .i32) (.int .u32)) (.pr (.sl (.int .i64)) (.pr (.sl (.int .i64)) (.pr (.pr (.sl (.arr 2 (.int .i64))) (.sl (.int .i64))) (.pr (.int .i64) (.pr (.bool) (.pr (.int .i64) (.pr (.int .i64) (.pr (.int .i64) (.pr (.int .i64) (.pr (.int .i64) (.pr (.int .i64) (.pr (.int .i64) (.pr (.int .i64) (.pr (.int .i64) (.pr (.int .i64) (.sl (.str))))))))))))))))))), false)]
abbrev res33a : Sh := .dat (.int .i64)
theorem lp33 : loopsIn (codeOf Tryz.f33) 0 = [] := by kernel_rfl
noncomputable def L33a_0 (K : Nat) : Lib := mkLib ti [(68, [e68a K, e68b K])] [] 33 []
theorem lib33a_0 (K : Nat) : LibOk Tryz.prog (L33a_0 K) := libOk_mk (ents := [(68, [e68a K, e68b K])]) (bodies := []) (loops := []) order tiOk ⟨more_ent (e68a_ok K) (one_ent (e68b_ok K)), trivial⟩ trivial Tryz.func33 rfl lp33 trivial
noncomputable def implf33a (K : Nat) (x1 : STN) : Option (Int) :=
  (ob (implf68a K x1) fun y1 => some (y1.2.2.2.2.1))
theorem q33a (K : Nat) (x1 : STN) : evFnK (α := Int) (L33a_0 K) 3 33 Tryz.f33.results.toList (codeOf Tryz.f33) ins33a res33a (fun p => p.1) (x1, ()) = implf33a K x1 := by kernel_rfl
noncomputable def e33a (K : Nat) : Ent := ⟨ins33a, res33a, Int, fun x => implf33a K x.1, fun _ => (fun y => (y, (()))), false⟩
theorem e33a_ok (K : Nat) : EntOk Tryz.prog 33 (e33a K) := entOk_k (ins := ins33a) (rs := res33a) (α := Int) (lib33a_0 K) (d := 3) Tryz.func33 rfl (by kernel_rfl) (by kernel_rfl) (by kernel_rfl) (fun x => implf33a K x.1) (fun p => p.1) (fun y => (y, (()))) (fun _ => rfl) (fun x => q33a K x.1)

abbrev ins33b : Fs := [(.dat .np, false)]
abbrev res33b : Sh := .dat (.int .i64)
noncomputable def L33b_0 (K : Nat) : Lib := mkLib ti [(68, [e68a K, e68b K])] [] 33 []
theorem lib33b_0 (K : Nat) : LibOk Tryz.prog (L33b_0 K) := libOk_mk (ents := [(68, [e68a K, e68b K])]) (bodies := []) (loops := []) order tiOk ⟨more_ent (e68a_ok K) (one_ent (e68b_ok K)), trivial⟩ trivial Tryz.func33 rfl lp33 trivial
noncomputable def implf33b (K : Nat) (x1 : Unit) : Option (Int) :=
  (ob (implf68b K x1) fun y1 => some (y1.2.2.2.2.1))
theorem q33b (K : Nat) (x1 : Unit) : evFnK (α := Int) (L33b_0 K) 3 33 Tryz.f33.results.toList (codeOf Tryz.f33) ins33b res33b (fun p => p.1) (x1, ()) = implf33b K x1 := by kernel_rfl
noncomputable def e33b (K : Nat) : Ent := ⟨ins33b, res33b, Int, fun x => implf33b K x.1, fun _ => (fun y => (y, (()))), false⟩
theorem e33b_ok (K : Nat) : EntOk Tryz.prog 33 (e33b K) := entOk_k (ins := ins33b) (rs := res33b) (α := Int) (lib33b_0 K) (d := 3) Tryz.func33 rfl (by kernel_rfl) (by kernel_rfl) (by kernel_rfl) (fun x => implf33b K x.1) (fun p => p.1) (fun y => (y, (()))) (fun _ => rfl) (fun x => q33b K x.1)

/-! (*diaphone/station.Station).Air -/
abbrev ins37a : Fs := [(.box (.dat (.pr (.pr (.int .i32) (.int .u32)) (.pr (.sl (.int .i64)) (.pr (.sl (.int .i64)) (.pr (.pr (.sl (.arr 2 (.int .i64))) (.sl (.int .i64))) (.pr (.int .i64) (.pr (.bool) (.pr (.int .i64) (.pr (.int .i64) (.pr (.int .i64) (.pr (.int .i64) (.pr (.int .i64) (.pr (.int .i64) (.pr (.int .i64) (.pr (.int .i64) (.pr (.int .i64) (.pr (.int .i64) (.sl (.str))))))))))))))))))), false)]
abbrev res37a : Sh := .dat (.int .i64)
theorem lp37 : loopsIn (codeOf Tryz.f37) 0 = [] := by kernel_rfl
noncomputable def L37a_0 (K : Nat) : Lib := mkLib ti [(68, [e68a K, e68b K])] [] 37 []
theorem lib37a_0 (K : Nat) : LibOk Tryz.prog (L37a_0 K) := libOk_mk (ents := [(68, [e68a K, e68b K])]) (bodies := []) (loops := []) order tiOk ⟨more_ent (e68a_ok K) (one_ent (e68b_ok K)), trivial⟩ trivial Tryz.func37 rfl lp37 trivial
noncomputable def implf37a (K : Nat) (x1 : STN) : Option (Int) :=
  (ob (implf68a K x1) fun y1 => some (y1.2.2.2.1))
theorem q37a (K : Nat) (x1 : STN) : evFnK (α := Int) (L37a_0 K) 3 37 Tryz.f37.results.toList (codeOf Tryz.f37) ins37a res37a (fun p => p.1) (x1, ()) = implf37a K x1 := by kernel_rfl
noncomputable def e37a (K : Nat) : Ent := ⟨ins37a, res37a, Int, fun x => implf37a K x.1, fun _ => (fun y => (y, (()))), false⟩
theorem e37a_ok (K : Nat) : EntOk Tryz.prog 37 (e37a K) := entOk_k (ins := ins37a) (rs := res37a) (α := Int) (lib37a_0 K) (d := 3) Tryz.func37 rfl (by kernel_rfl) (by kernel_rfl) (by kernel_rfl) (fun x => implf37a K x.1) (fun p => p.1) (fun y => (y, (()))) (fun _ => rfl) (fun x => q37a K x.1)

abbrev ins37b : Fs := [(.dat .np, false)]
abbrev res37b : Sh := .dat (.int .i64)
noncomputable def L37b_0 (K : Nat) : Lib := mkLib ti [(68, [e68a K, e68b K])] [] 37 []
theorem lib37b_0 (K : Nat) : LibOk Tryz.prog (L37b_0 K) := libOk_mk (ents := [(68, [e68a K, e68b K])]) (bodies := []) (loops := []) order tiOk ⟨more_ent (e68a_ok K) (one_ent (e68b_ok K)), trivial⟩ trivial Tryz.func37 rfl lp37 trivial
noncomputable def implf37b (K : Nat) (x1 : Unit) : Option (Int) :=
  (ob (implf68b K x1) fun y1 => some (y1.2.2.2.1))
theorem q37b (K : Nat) (x1 : Unit) : evFnK (α := Int) (L37b_0 K) 3 37 Tryz.f37.results.toList (codeOf Tryz.f37) ins37b res37b (fun p => p.1) (x1, ()) = implf37b K x1 := by kernel_rfl
noncomputable def e37b (K : Nat) : Ent := ⟨ins37b, res37b, Int, fun x => implf37b K x.1, fun _ => (fun y => (y, (()))), false⟩
theorem e37b_ok (K : Nat) : EntOk Tryz.prog 37 (e37b K) := entOk_k (ins := ins37b) (rs := res37b) (α := Int) (lib37b_0 K) (d := 3) Tryz.func37 rfl (by kernel_rfl) (by kernel_rfl) (by kernel_rfl) (fun x => implf37b K x.1) (fun p => p.1) (fun y => (y, (()))) (fun _ => rfl) (fun x => q37b K x.1)

/-! (*diaphone/station.Station).Sounded -/
abbrev ins38a : Fs := [(.box (.dat (.pr (.pr (.int .i32) (.int .u32)) (.pr (.sl (.int .i64)) (.pr (.sl (.int .i64)) (.pr (.pr (.sl (.arr 2 (.int .i64))) (.sl (.int .i64))) (.pr (.int .i64) (.pr (.bool) (.pr (.int .i64) (.pr (.int .i64) (.pr (.int .i64) (.pr (.int .i64) (.pr (.int .i64) (.pr (.int .i64) (.pr (.int .i64) (.pr (.int .i64) (.pr (.int .i64) (.pr (.int .i64) (.sl (.str))))))))))))))))))), false)]
abbrev res38a : Sh := .dat (.int .i64)
theorem lp38 : loopsIn (codeOf Tryz.f38) 0 = [] := by kernel_rfl
noncomputable def L38a_0 (K : Nat) : Lib := mkLib ti [(68, [e68a K, e68b K])] [] 38 []
theorem lib38a_0 (K : Nat) : LibOk Tryz.prog (L38a_0 K) := libOk_mk (ents := [(68, [e68a K, e68b K])]) (bodies := []) (loops := []) order tiOk ⟨more_ent (e68a_ok K) (one_ent (e68b_ok K)), trivial⟩ trivial Tryz.func38 rfl lp38 trivial
noncomputable def implf38a (K : Nat) (x1 : STN) : Option (Int) :=
  (ob (implf68a K x1) fun y1 => some (y1.2.2.2.2.2.2.1))
theorem q38a (K : Nat) (x1 : STN) : evFnK (α := Int) (L38a_0 K) 3 38 Tryz.f38.results.toList (codeOf Tryz.f38) ins38a res38a (fun p => p.1) (x1, ()) = implf38a K x1 := by kernel_rfl
noncomputable def e38a (K : Nat) : Ent := ⟨ins38a, res38a, Int, fun x => implf38a K x.1, fun _ => (fun y => (y, (()))), false⟩
theorem e38a_ok (K : Nat) : EntOk Tryz.prog 38 (e38a K) := entOk_k (ins := ins38a) (rs := res38a) (α := Int) (lib38a_0 K) (d := 3) Tryz.func38 rfl (by kernel_rfl) (by kernel_rfl) (by kernel_rfl) (fun x => implf38a K x.1) (fun p => p.1) (fun y => (y, (()))) (fun _ => rfl) (fun x => q38a K x.1)

abbrev ins38b : Fs := [(.dat .np, false)]
abbrev res38b : Sh := .dat (.int .i64)
noncomputable def L38b_0 (K : Nat) : Lib := mkLib ti [(68, [e68a K, e68b K])] [] 38 []
theorem lib38b_0 (K : Nat) : LibOk Tryz.prog (L38b_0 K) := libOk_mk (ents := [(68, [e68a K, e68b K])]) (bodies := []) (loops := []) order tiOk ⟨more_ent (e68a_ok K) (one_ent (e68b_ok K)), trivial⟩ trivial Tryz.func38 rfl lp38 trivial
noncomputable def implf38b (K : Nat) (x1 : Unit) : Option (Int) :=
  (ob (implf68b K x1) fun y1 => some (y1.2.2.2.2.2.2.1))
theorem q38b (K : Nat) (x1 : Unit) : evFnK (α := Int) (L38b_0 K) 3 38 Tryz.f38.results.toList (codeOf Tryz.f38) ins38b res38b (fun p => p.1) (x1, ()) = implf38b K x1 := by kernel_rfl
noncomputable def e38b (K : Nat) : Ent := ⟨ins38b, res38b, Int, fun x => implf38b K x.1, fun _ => (fun y => (y, (()))), false⟩
theorem e38b_ok (K : Nat) : EntOk Tryz.prog 38 (e38b K) := entOk_k (ins := ins38b) (rs := res38b) (α := Int) (lib38b_0 K) (d := 3) Tryz.func38 rfl (by kernel_rfl) (by kernel_rfl) (by kernel_rfl) (fun x => implf38b K x.1) (fun p => p.1) (fun y => (y, (()))) (fun _ => rfl) (fun x => q38b K x.1)

/-! (*diaphone/station.Station).Missed -/
abbrev ins59a : Fs := [(.box (.dat (.pr (.pr (.int .i32) (.int .u32)) (.pr (.sl (.int .i64)) (.pr (.sl (.int .i64)) (.pr (.pr (.sl (.arr 2 (.int .i64))) (.sl (.int .i64))) (.pr (.int .i64) (.pr (.bool) (.pr (.int .i64) (.pr (.int .i64) (.pr (.int .i64) (.pr (.int .i64) (.pr (.int .i64) (.pr (.int .i64) (.pr (.int .i64) (.pr (.int .i64) (.pr (.int .i64) (.pr (.int .i64) (.sl (.str))))))))))))))))))), false)]
abbrev res59a : Sh := .dat (.int .i64)
theorem lp59 : loopsIn (codeOf Tryz.f59) 0 = [] := by kernel_rfl
noncomputable def L59a_0 (K : Nat) : Lib := mkLib ti [(68, [e68a K, e68b K])] [] 59 []
theorem lib59a_0 (K : Nat) : LibOk Tryz.prog (L59a_0 K) := libOk_mk (ents := [(68, [e68a K, e68b K])]) (bodies := []) (loops := []) order tiOk ⟨more_ent (e68a_ok K) (one_ent (e68b_ok K)), trivial⟩ trivial Tryz.func59 rfl lp59 trivial
noncomputable def implf59a (K : Nat) (x1 : STN) : Option (Int) :=
  (ob (implf68a K x1) fun y1 => some (y1.2.2.2.2.2.2.2.1))
theorem q59a (K : Nat) (x1 : STN) : evFnK (α := Int) (L59a_0 K) 3 59 Tryz.f59.results.toList (codeOf Tryz.f59) ins59a res59a (fun p => p.1) (x1, ()) = implf59a K x1 := by kernel_rfl
noncomputable def e59a (K : Nat) : Ent := ⟨ins59a, res59a, Int, fun x => implf59a K x.1, fun _ => (fun y => (y, (()))), false⟩
theorem e59a_ok (K : Nat) : EntOk Tryz.prog 59 (e59a K) := entOk_k (ins := ins59a) (rs := res59a) (α := Int) (lib59a_0 K) (d := 3) Tryz.func59 rfl (by kernel_rfl) (by kernel_rfl) (by kernel_rfl) (fun x => implf59a K x.1) (fun p => p.1) (fun y => (y, (()))) (fun _ => rfl) (fun x => q59a K x.1)

abbrev ins59b : Fs := [(.dat .np, false)]
abbrev res59b : Sh := .dat (.int .i64)
noncomputable def L59b_0 (K : Nat) : Lib := mkLib ti [(68, [e68a K, e68b K])] [] 59 []
theorem lib59b_0 (K : Nat) : LibOk Tryz.prog (L59b_0 K) := libOk_mk (ents := [(68, [e68a K, e68b K])]) (bodies := []) (loops := []) order tiOk ⟨more_ent (e68a_ok K) (one_ent (e68b_ok K)), trivial⟩ trivial Tryz.func59 rfl lp59 trivial
noncomputable def implf59b (K : Nat) (x1 : Unit) : Option (Int) :=
  (ob (implf68b K x1) fun y1 => some (y1.2.2.2.2.2.2.2.1))
theorem q59b (K : Nat) (x1 : Unit) : evFnK (α := Int) (L59b_0 K) 3 59 Tryz.f59.results.toList (codeOf Tryz.f59) ins59b res59b (fun p => p.1) (x1, ()) = implf59b K x1 := by kernel_rfl
noncomputable def e59b (K : Nat) : Ent := ⟨ins59b, res59b, Int, fun x => implf59b K x.1, fun _ => (fun y => (y, (()))), false⟩
theorem e59b_ok (K : Nat) : EntOk Tryz.prog 59 (e59b K) := entOk_k (ins := ins59b) (rs := res59b) (α := Int) (lib59b_0 K) (d := 3) Tryz.func59 rfl (by kernel_rfl) (by kernel_rfl) (by kernel_rfl) (fun x => implf59b K x.1) (fun p => p.1) (fun y => (y, (()))) (fun _ => rfl) (fun x => q59b K x.1)

/-! diaphone/diaphonelaw09.sane -/
abbrev ins27 : Fs := []
abbrev res27 : Sh := .dat (.bool)
theorem lp27 : loopsIn (codeOf Tryz.f27) 0 = [(0, loopOf 0 (codeOf Tryz.f27))] := by kernel_rfl
noncomputable def L27_0 (K : Nat) : Lib := mkLibR ti [(22, [e22 K]), (31, [e31a K, e31b K]), (33, [e33a K, e33b K]), (37, [e37a K, e37b K]), (38, [e38a K, e38b K]), (50, [e50a K, e50b K]), (59, [e59a K, e59b K])] [(69, Tryz.f69)] 27 [] [] [] [] [50]
theorem lib27_0 (K : Nat) : LibOk Tryz.prog (L27_0 K) := libOk_mkR (ents := [(22, [e22 K]), (31, [e31a K, e31b K]), (33, [e33a K, e33b K]), (37, [e37a K, e37b K]), (38, [e38a K, e38b K]), (50, [e50a K, e50b K]), (59, [e59a K, e59b K])]) (bodies := [(69, Tryz.f69)]) (loops := []) order tiOk ⟨one_ent (e22_ok K), more_ent (e31a_ok K) (one_ent (e31b_ok K)), more_ent (e33a_ok K) (one_ent (e33b_ok K)), more_ent (e37a_ok K) (one_ent (e37b_ok K)), more_ent (e38a_ok K) (one_ent (e38b_ok K)), more_ent (e50a_ok K) (one_ent (e50b_ok K)), more_ent (e59a_ok K) (one_ent (e59b_ok K)), trivial⟩ ⟨bod69, trivial⟩ Tryz.func27 rfl lp27 ⟨no_lent, trivial⟩ (rngs := []) trivial (frz := []) (opts := []) trivial
abbrev i27_0 : Fs := [(.box (.dat (.pr (.pr (.int Go.IntKind.i32) (.int Go.IntKind.u32)) (.pr (.sl (.int Go.IntKind.i64)) (.pr (.sl (.int Go.IntKind.i64)) (.pr (.pr (.sl (.arr 2 (.int Go.IntKind.i64))) (.sl (.int Go.IntKind.i64))) (.pr (.int Go.IntKind.i64) (.pr (.bool) (.pr (.int Go.IntKind.i64) (.pr (.int Go.IntKind.i64) (.pr (.int Go.IntKind.i64) (.pr (.int Go.IntKind.i64) (.pr (.int Go.IntKind.i64) (.pr (.int Go.IntKind.i64) (.pr (.int Go.IntKind.i64) (.pr (.int Go.IntKind.i64) (.pr (.int Go.IntKind.i64) (.pr (.int Go.IntKind.i64) (.sl (.str))))))))))))))))))), true), (.own (.str), false), (.own (.int Go.IntKind.i64), false), (.dat (.int Go.IntKind.i64), true)]
noncomputable def implb27_0 (K : Nat) (rc : STN → (List ByteArray) → (List Int) → Int → Option (Sum (STN × Int × Unit) Bool)) (x1 : STN) (x2 : (List ByteArray)) (x3 : (List Int)) (x4 : Int) : Option (Sum (STN × Int × Unit) Bool) :=
  (bif decide (x4 < (↑x2.length : Int)) then (if (0 : Int) ≤ x4 ∧ x4 < (↑x2.length : Int) then (ob (implf31a K x1 (x2.getD x4.toNat ByteArray.empty)) fun y1 => (if (0 : Int) ≤ x4 ∧ x4 < (↑x3.length : Int) then (bif y1.1 != x3.getD x4.toNat ((0 : Int)) then some (Sum.inr false) else (rc y1.2 x2 x3 (IntKind.i64.wrap (x4 + (1 : Int))))) else none)) else none) else some (Sum.inl (x1, x4, ())))
noncomputable def impll27_0 (K : Nat) : Nat → STN → (List ByteArray) → (List Int) → Int → Option (Sum (STN × Int × Unit) Bool)
  | 0, _, _, _, _ => none
  | k + 1, x1, x2, x3, x4 => implb27_0 K (impll27_0 K k) x1 x2 x3 x4
noncomputable def n27_0 (K : Nat) : Lent := ⟨[2, 4, 5, 6], i27_0, [28, 29, 30, 31, 34, 35, 36, 37, 38, 39, 40, 41, 42, 43, 44, 0, 32, 33], [0], true, res27, fun x => impll27_0 K K x.1 x.2.1 x.2.2.1 x.2.2.2.1, [], none⟩
theorem q27_0 (K : Nat) (rc : STN → (List ByteArray) → (List Int) → Int → Option (Sum (STN × Int × Unit) Bool)) (x1 : STN) (x2 : (List ByteArray)) (x3 : (List Int)) (x4 : Int) : evLoop (L27_0 K) 3 27 Tryz.f27.results.toList (loopOf 0 (codeOf Tryz.f27)) 0 [2, 4, 5, 6] [] i27_0 [0] true res27 (fun x => rc x.1 x.2.1 x.2.2.1 x.2.2.2.1) (x1, x2, x3, x4, ()) = implb27_0 K rc x1 x2 x3 x4 := by kernel_rfl
theorem lp27_0 : loopsIn (loopOf 0 (codeOf Tryz.f27)) 0 = [] := by kernel_rfl
theorem n27_0_ok (K : Nat) : LentOk Tryz.prog Tryz.f27 (loopOf 0 (codeOf Tryz.f27)) (n27_0 K) := lentOk_kR (slots := [2, 4, 5, 6]) (ali := []) (ins := i27_0) (writes := [28, 29, 30, 31, 34, 35, 36, 37, 38, 39, 40, 41, 42, 43, 44, 0, 32, 33]) (exits := [0]) (rets := true) (rs := res27) (d := 3) (lib27_0 K) Tryz.func27 rfl (.inl (by kernel_rfl)) lp27_0 trivial (by kernel_rfl) (by kernel_rfl) (by kernel_rfl) (by kernel_rfl) (by kernel_rfl) (fun k x => impll27_0 K k x.1 x.2.1 x.2.2.1 x.2.2.2.1) (fun _ => rfl) (fun k x => q27_0 K (impll27_0 K k) x.1 x.2.1 x.2.2.1 x.2.2.2.1) K
noncomputable def L27_1 (K : Nat) : Lib := mkLibR ti [(22, [e22 K]), (31, [e31a K, e31b K]), (33, [e33a K, e33b K]), (37, [e37a K, e37b K]), (38, [e38a K, e38b K]), (50, [e50a K, e50b K]), (59, [e59a K, e59b K])] [(69, Tryz.f69)] 27 [(0, [n27_0 K])] [] [] [] [50]
theorem lib27_1 (K : Nat) : LibOk Tryz.prog (L27_1 K) := libOk_mkR (ents := [(22, [e22 K]), (31, [e31a K, e31b K]), (33, [e33a K, e33b K]), (37, [e37a K, e37b K]), (38, [e38a K, e38b K]), (50, [e50a K, e50b K]), (59, [e59a K, e59b K])]) (bodies := [(69, Tryz.f69)]) (loops := [(0, [n27_0 K])]) order tiOk ⟨one_ent (e22_ok K), more_ent (e31a_ok K) (one_ent (e31b_ok K)), more_ent (e33a_ok K) (one_ent (e33b_ok K)), more_ent (e37a_ok K) (one_ent (e37b_ok K)), more_ent (e38a_ok K) (one_ent (e38b_ok K)), more_ent (e50a_ok K) (one_ent (e50b_ok K)), more_ent (e59a_ok K) (one_ent (e59b_ok K)), trivial⟩ ⟨bod69, trivial⟩ Tryz.func27 rfl lp27 ⟨one_lent (n27_0_ok K), trivial⟩ (rngs := []) trivial (frz := []) (opts := []) trivial
noncomputable def implf27 (K : Nat)  : Option (Bool) :=
  (oel (implf50a K ((((List.replicate 3 ((0 : Int))).set 0 ((1 : Int))).set 1 ((1 : Int))).set 2 ((0 : Int))) (((List.replicate 2 ((0 : Int))).set 0 ((3 : Int))).set 1 ((5 : Int))) (((List.replicate 2 (List.replicate 2 ((0 : Int)))).set 0 (((List.replicate 2 ((0 : Int))).set 0 ((0 : Int))).set 1 ((1 : Int)))).set 1 (((List.replicate 2 ((0 : Int))).set 0 ((0 : Int))).set 1 ((1 : Int))), ((List.replicate 2 ((0 : Int))).set 0 ((0 : Int))).set 1 ((1 : Int)))) (ob (implf50b K ((((List.replicate 3 ((0 : Int))).set 0 ((1 : Int))).set 1 ((1 : Int))).set 2 ((0 : Int))) (((List.replicate 2 ((0 : Int))).set 0 ((3 : Int))).set 1 ((5 : Int))) (((List.replicate 2 (List.replicate 2 ((0 : Int)))).set 0 (((List.replicate 2 ((0 : Int))).set 0 ((0 : Int))).set 1 ((1 : Int)))).set 1 (((List.replicate 2 ((0 : Int))).set 0 ((0 : Int))).set 1 ((1 : Int))), ((List.replicate 2 ((0 : Int))).set 0 ((0 : Int))).set 1 ((1 : Int)))) fun y1 => (bif y1.2 != (0 : Int) then some (false) else (ob (impll27_0 K K y1.1 (((((((((List.replicate 8 ByteArray.empty).set 0 (ByteArray.mk #[(112 : UInt8), (117 : UInt8), (109 : UInt8), (112 : UInt8), (32 : UInt8), (53 : UInt8)])).set 1 (ByteArray.mk #[(102 : UInt8), (111 : UInt8), (103 : UInt8)])).set 2 (ByteArray.mk #[(119 : UInt8), (97 : UInt8), (105 : UInt8), (116 : UInt8), (32 : UInt8), (51 : UInt8)])).set 3 (ByteArray.mk #[(115 : UInt8), (116 : UInt8), (111 : UInt8), (99 : UInt8), (107 : UInt8), (32 : UInt8), (52 : UInt8)])).set 4 (ByteArray.mk #[(102 : UInt8), (105 : UInt8), (114 : UInt8), (101 : UInt8), (32 : UInt8), (56 : UInt8)])).set 5 (ByteArray.mk #[(102 : UInt8), (105 : UInt8), (114 : UInt8), (101 : UInt8), (32 : UInt8), (55 : UInt8)])).set 6 (ByteArray.mk #[(102 : UInt8), (105 : UInt8), (114 : UInt8), (101 : UInt8), (32 : UInt8), (57 : UInt8)])).set 7 (ByteArray.mk #[(102 : UInt8), (105 : UInt8), (114 : UInt8), (101 : UInt8), (32 : UInt8), (49 : UInt8), (56 : UInt8)])) (((((((((List.replicate 8 ((0 : Int))).set 0 ((0 : Int))).set 1 ((0 : Int))).set 2 ((0 : Int))).set 3 ((0 : Int))).set 4 ((0 : Int))).set 5 ((6 : Int))).set 6 ((10 : Int))).set 7 ((10 : Int))) ((0 : Int))) fun y2 => (match y2 with | .inl y3 => (ob (implf22 K ((List.replicate 1 ByteArray.empty).set 0 (ByteArray.mk #[(102 : UInt8), (111 : UInt8), (103 : UInt8)]))) fun y4 => (ob (implf38a K y3.1) fun y5 => (bif y5 == (2 : Int) then (ob (implf59a K y3.1) fun y6 => (bif y6 == (1 : Int) then (ob (implf37a K y3.1) fun y7 => (bif y7 == (1 : Int) then (ob (implf33a K y3.1) fun y8 => (bif y8 == (2 : Int) then (bif y4.2 == (0 : Int) then some (y4.1.toList == (ByteArray.mk #[(56 : UInt8), (51 : UInt8), (49 : UInt8), (57 : UInt8), (49 : UInt8), (55 : UInt8), (32 : UInt8), (102 : UInt8), (111 : UInt8), (103 : UInt8), (10 : UInt8)]).toList) else some (false)) else some (false))) else some (false))) else some (false))) else some (false)))) | .inr y3 => some (y3))))) fun y9 => (bif y9.2 != (0 : Int) then some (false) else some (false)))
theorem q27 (K : Nat)  : evFnK (α := Bool) (L27_1 K) 3 27 Tryz.f27.results.toList (codeOf Tryz.f27) ins27 res27 (fun p => p.1) (()) = implf27 K  := by kernel_rfl
noncomputable def e27 (K : Nat) : Ent := ⟨ins27, res27, Bool, fun x => implf27 K , fun _ => (fun y => (y, (()))), false⟩
theorem e27_ok (K : Nat) : EntOk Tryz.prog 27 (e27 K) := entOk_k (ins := ins27) (rs := res27) (α := Bool) (lib27_1 K) (d := 3) Tryz.func27 rfl (by kernel_rfl) (by kernel_rfl) (by kernel_rfl) (fun x => implf27 K ) (fun p => p.1) (fun y => (y, (()))) (fun _ => rfl) (fun x => q27 K )

/-! diaphone/diaphoneref09.Sum -/
abbrev ins47 : Fs := [(.dat (.int .i64), false), (.dat (.str), false)]
abbrev res47 : Sh := .dat (.int .i64)
theorem lp47 : loopsIn (codeOf Tryz.f47) 0 = [(0, loopOf 0 (codeOf Tryz.f47))] := by kernel_rfl
noncomputable def L47_0 (K : Nat) : Lib := mkLib ti [] [] 47 []
theorem lib47_0 (K : Nat) : LibOk Tryz.prog (L47_0 K) := libOk_mk (ents := []) (bodies := []) (loops := []) order tiOk trivial trivial Tryz.func47 rfl lp47 ⟨no_lent, trivial⟩
abbrev i47_0 : Fs := [(.dat (.str), false), (.dat (.int Go.IntKind.i64), true), (.dat (.int Go.IntKind.i64), true)]
noncomputable def implb47_0 (K : Nat) (rc : ByteArray → Int → Int → Option (Int × Int × Unit)) (x1 : ByteArray) (x2 : Int) (x3 : Int) : Option (Int × Int × Unit) :=
  (bif decide (x3 < (↑x1.size : Int)) then (if (0 : Int) ≤ x3 ∧ x3 < (↑x1.size : Int) then (rc x1 ((IntKind.i64.wrap (IntKind.i64.wrap (IntKind.i64.wrap (x2 * (257 : Int)) + IntKind.i64.wrap (bt x1 x3)) + (1 : Int))).tmod (1000003 : Int)) (IntKind.i64.wrap (x3 + (1 : Int)))) else none) else some ((x2, x3, ())))
noncomputable def impll47_0 (K : Nat) : Nat → ByteArray → Int → Int → Option (Int × Int × Unit)
  | 0, _, _, _ => none
  | k + 1, x1, x2, x3 => implb47_0 K (impll47_0 K k) x1 x2 x3
noncomputable def n47_0 (K : Nat) : Lent := ⟨[1, 5, 6], i47_0, [11, 12, 13, 14, 17, 18, 19, 20, 21, 22, 23, 24, 25, 15, 16], [0], false, res47, fun x => impll47_0 K K x.1 x.2.1 x.2.2.1, [], none⟩
theorem q47_0 (K : Nat) (rc : ByteArray → Int → Int → Option (Int × Int × Unit)) (x1 : ByteArray) (x2 : Int) (x3 : Int) : evLoop (L47_0 K) 3 47 Tryz.f47.results.toList (loopOf 0 (codeOf Tryz.f47)) 0 [1, 5, 6] [] i47_0 [0] false res47 (fun x => rc x.1 x.2.1 x.2.2.1) (x1, x2, x3, ()) = implb47_0 K rc x1 x2 x3 := by kernel_rfl
theorem lp47_0 : loopsIn (loopOf 0 (codeOf Tryz.f47)) 0 = [] := by kernel_rfl
theorem n47_0_ok (K : Nat) : LentOk Tryz.prog Tryz.f47 (loopOf 0 (codeOf Tryz.f47)) (n47_0 K) := lentOk_k (slots := [1, 5, 6]) (ali := []) (ins := i47_0) (writes := [11, 12, 13, 14, 17, 18, 19, 20, 21, 22, 23, 24, 25, 15, 16]) (exits := [0]) (rets := false) (rs := res47) (d := 3) (lib47_0 K) lp47_0 trivial (by kernel_rfl) (by kernel_rfl) (by kernel_rfl) (by kernel_rfl) (by kernel_rfl) (fun k x => impll47_0 K k x.1 x.2.1 x.2.2.1) (fun _ => rfl) (fun k x => q47_0 K (impll47_0 K k) x.1 x.2.1 x.2.2.1) K
noncomputable def L47_1 (K : Nat) : Lib := mkLib ti [] [] 47 [(0, [n47_0 K])]
theorem lib47_1 (K : Nat) : LibOk Tryz.prog (L47_1 K) := libOk_mk (ents := []) (bodies := []) (loops := [(0, [n47_0 K])]) order tiOk trivial trivial Tryz.func47 rfl lp47 ⟨one_lent (n47_0_ok K), trivial⟩
noncomputable def implf47 (K : Nat) (x1 : Int) (x2 : ByteArray) : Option (Int) :=
  (ob (impll47_0 K K x2 ((IntKind.i64.wrap (x1.tmod (1000003 : Int) + (1000003 : Int))).tmod (1000003 : Int)) ((0 : Int))) fun y1 => some (y1.1))
theorem q47 (K : Nat) (x1 : Int) (x2 : ByteArray) : evFnK (α := Int) (L47_1 K) 3 47 Tryz.f47.results.toList (codeOf Tryz.f47) ins47 res47 (fun p => p.1) (x1, x2, ()) = implf47 K x1 x2 := by kernel_rfl
noncomputable def e47 (K : Nat) : Ent := ⟨ins47, res47, Int, fun x => implf47 K x.1 x.2.1, fun _ => (fun y => (y, (()))), false⟩
theorem e47_ok (K : Nat) : EntOk Tryz.prog 47 (e47 K) := entOk_k (ins := ins47) (rs := res47) (α := Int) (lib47_1 K) (d := 3) Tryz.func47 rfl (by kernel_rfl) (by kernel_rfl) (by kernel_rfl) (fun x => implf47 K x.1 x.2.1) (fun p => p.1) (fun y => (y, (()))) (fun _ => rfl) (fun x => q47 K x.1 x.2.1)

/-! diaphone/diaphoneref09.Text -/
abbrev ins53 : Fs := [(.dat (.sl (.str)), false)]
abbrev res53 : Sh := .dat (.str)
theorem lp53 : loopsIn (codeOf Tryz.f53) 0 = [(0, loopOf 0 (codeOf Tryz.f53))] := by kernel_rfl
noncomputable def L53_0 (K : Nat) : Lib := mkLib ti [(47, [e47 K]), (85, [e85 K])] [] 53 []
theorem lib53_0 (K : Nat) : LibOk Tryz.prog (L53_0 K) := libOk_mk (ents := [(47, [e47 K]), (85, [e85 K])]) (bodies := []) (loops := []) order tiOk ⟨one_ent (e47_ok K), one_ent (e85_ok K), trivial⟩ trivial Tryz.func53 rfl lp53 ⟨no_lent, trivial⟩
abbrev i53_0 : Fs := [(.dat (.sl (.str)), false), (.dat (.str), true), (.dat (.int Go.IntKind.i64), true), (.dat (.int Go.IntKind.i64), true)]
noncomputable def implb53_0 (K : Nat) (rc : (List ByteArray) → ByteArray → Int → Int → Option (ByteArray × Int × Int × Unit)) (x1 : (List ByteArray)) (x2 : ByteArray) (x3 : Int) (x4 : Int) : Option (ByteArray × Int × Int × Unit) :=
  (bif decide (x4 < (↑x1.length : Int)) then (if (0 : Int) ≤ x4 ∧ x4 < (↑x1.length : Int) then (ob (implf47 K x3 (x1.getD x4.toNat ByteArray.empty)) fun y1 => (ob (implf85 K y1) fun y2 => (if y2.size + (ByteArray.mk #[(32 : UInt8)]).size ≤ 140737488355328 then (if (0 : Int) ≤ x4 ∧ x4 < (↑x1.length : Int) then (if (y2 ++ ByteArray.mk #[(32 : UInt8)]).size + (x1.getD x4.toNat ByteArray.empty).size ≤ 140737488355328 then (if (y2 ++ ByteArray.mk #[(32 : UInt8)] ++ x1.getD x4.toNat ByteArray.empty).size + (ByteArray.mk #[(10 : UInt8)]).size ≤ 140737488355328 then (if x2.size + (y2 ++ ByteArray.mk #[(32 : UInt8)] ++ x1.getD x4.toNat ByteArray.empty ++ ByteArray.mk #[(10 : UInt8)]).size ≤ 140737488355328 then (rc x1 (x2 ++ (y2 ++ ByteArray.mk #[(32 : UInt8)] ++ x1.getD x4.toNat ByteArray.empty ++ ByteArray.mk #[(10 : UInt8)])) y1 (IntKind.i64.wrap (x4 + (1 : Int)))) else none) else none) else none) else none) else none))) else none) else some ((x2, x3, x4, ())))
noncomputable def impll53_0 (K : Nat) : Nat → (List ByteArray) → ByteArray → Int → Int → Option (ByteArray × Int × Int × Unit)
  | 0, _, _, _, _ => none
  | k + 1, x1, x2, x3, x4 => implb53_0 K (impll53_0 K k) x1 x2 x3 x4
noncomputable def n53_0 (K : Nat) : Lent := ⟨[0, 3, 4, 5], i53_0, [6, 7, 8, 9, 12, 13, 14, 15, 16, 17, 18, 19, 20, 21, 22, 23, 24, 25, 26, 27, 28, 10, 11], [0], false, res53, fun x => impll53_0 K K x.1 x.2.1 x.2.2.1 x.2.2.2.1, [], none⟩
theorem q53_0 (K : Nat) (rc : (List ByteArray) → ByteArray → Int → Int → Option (ByteArray × Int × Int × Unit)) (x1 : (List ByteArray)) (x2 : ByteArray) (x3 : Int) (x4 : Int) : evLoop (L53_0 K) 3 53 Tryz.f53.results.toList (loopOf 0 (codeOf Tryz.f53)) 0 [0, 3, 4, 5] [] i53_0 [0] false res53 (fun x => rc x.1 x.2.1 x.2.2.1 x.2.2.2.1) (x1, x2, x3, x4, ()) = implb53_0 K rc x1 x2 x3 x4 := by kernel_rfl
theorem lp53_0 : loopsIn (loopOf 0 (codeOf Tryz.f53)) 0 = [] := by kernel_rfl
theorem n53_0_ok (K : Nat) : LentOk Tryz.prog Tryz.f53 (loopOf 0 (codeOf Tryz.f53)) (n53_0 K) := lentOk_k (slots := [0, 3, 4, 5]) (ali := []) (ins := i53_0) (writes := [6, 7, 8, 9, 12, 13, 14, 15, 16, 17, 18, 19, 20, 21, 22, 23, 24, 25, 26, 27, 28, 10, 11]) (exits := [0]) (rets := false) (rs := res53) (d := 3) (lib53_0 K) lp53_0 trivial (by kernel_rfl) (by kernel_rfl) (by kernel_rfl) (by kernel_rfl) (by kernel_rfl) (fun k x => impll53_0 K k x.1 x.2.1 x.2.2.1 x.2.2.2.1) (fun _ => rfl) (fun k x => q53_0 K (impll53_0 K k) x.1 x.2.1 x.2.2.1 x.2.2.2.1) K
noncomputable def L53_1 (K : Nat) : Lib := mkLib ti [(47, [e47 K]), (85, [e85 K])] [] 53 [(0, [n53_0 K])]
theorem lib53_1 (K : Nat) : LibOk Tryz.prog (L53_1 K) := libOk_mk (ents := [(47, [e47 K]), (85, [e85 K])]) (bodies := []) (loops := [(0, [n53_0 K])]) order tiOk ⟨one_ent (e47_ok K), one_ent (e85_ok K), trivial⟩ trivial Tryz.func53 rfl lp53 ⟨one_lent (n53_0_ok K), trivial⟩
noncomputable def implf53 (K : Nat) (x1 : (List ByteArray)) : Option (ByteArray) :=
  (ob (impll53_0 K K x1 (ByteArray.mk #[]) ((0 : Int)) ((0 : Int))) fun y1 => some (y1.1))
theorem q53 (K : Nat) (x1 : (List ByteArray)) : evFnK (α := ByteArray) (L53_1 K) 3 53 Tryz.f53.results.toList (codeOf Tryz.f53) ins53 res53 (fun p => p.1) (x1, ()) = implf53 K x1 := by kernel_rfl
noncomputable def e53 (K : Nat) : Ent := ⟨ins53, res53, ByteArray, fun x => implf53 K x.1, fun _ => (fun y => (y, (()))), false⟩
theorem e53_ok (K : Nat) : EntOk Tryz.prog 53 (e53 K) := entOk_k (ins := ins53) (rs := res53) (α := ByteArray) (lib53_1 K) (d := 3) Tryz.func53 rfl (by kernel_rfl) (by kernel_rfl) (by kernel_rfl) (fun x => implf53 K x.1) (fun p => p.1) (fun y => (y, (()))) (fun _ => rfl) (fun x => q53 K x.1)

/-! diaphone/diaphoneref09.Right -/
abbrev ins84 : Fs := [(.dat (.str), false)]
abbrev res84 : Sh := .dat (.bool)
theorem lp84 : loopsIn (codeOf Tryz.f84) 0 = [(0, loopOf 0 (codeOf Tryz.f84))] := by kernel_rfl
noncomputable def L84_0 (K : Nat) : Lib := mkLib ti [] [] 84 []
theorem lib84_0 (K : Nat) : LibOk Tryz.prog (L84_0 K) := libOk_mk (ents := []) (bodies := []) (loops := []) order tiOk trivial trivial Tryz.func84 rfl lp84 ⟨no_lent, trivial⟩
abbrev i84_0 : Fs := [(.dat (.str), false), (.dat (.int Go.IntKind.i64), true)]
noncomputable def implb84_0 (K : Nat) (rc : ByteArray → Int → Option (Sum (Int × Unit) Bool)) (x1 : ByteArray) (x2 : Int) : Option (Sum (Int × Unit) Bool) :=
  (bif decide (x2 < (↑x1.size : Int)) then (if (0 : Int) ≤ x2 ∧ x2 < (↑x1.size : Int) then (bif bt x1 x2 == (10 : Int) then some (Sum.inr false) else (rc x1 (IntKind.i64.wrap (x2 + (1 : Int))))) else none) else some (Sum.inl (x2, ())))
noncomputable def impll84_0 (K : Nat) : Nat → ByteArray → Int → Option (Sum (Int × Unit) Bool)
  | 0, _, _ => none
  | k + 1, x1, x2 => implb84_0 K (impll84_0 K k) x1 x2
noncomputable def n84_0 (K : Nat) : Lent := ⟨[0, 3], i84_0, [4, 5, 6, 7, 10, 11, 12, 13, 2, 8, 9], [0], true, res84, fun x => impll84_0 K K x.1 x.2.1, [], none⟩
theorem q84_0 (K : Nat) (rc : ByteArray → Int → Option (Sum (Int × Unit) Bool)) (x1 : ByteArray) (x2 : Int) : evLoop (L84_0 K) 3 84 Tryz.f84.results.toList (loopOf 0 (codeOf Tryz.f84)) 0 [0, 3] [] i84_0 [0] true res84 (fun x => rc x.1 x.2.1) (x1, x2, ()) = implb84_0 K rc x1 x2 := by kernel_rfl
theorem lp84_0 : loopsIn (loopOf 0 (codeOf Tryz.f84)) 0 = [] := by kernel_rfl
theorem n84_0_ok (K : Nat) : LentOk Tryz.prog Tryz.f84 (loopOf 0 (codeOf Tryz.f84)) (n84_0 K) := lentOk_k (slots := [0, 3]) (ali := []) (ins := i84_0) (writes := [4, 5, 6, 7, 10, 11, 12, 13, 2, 8, 9]) (exits := [0]) (rets := true) (rs := res84) (d := 3) (lib84_0 K) lp84_0 trivial (by kernel_rfl) (by kernel_rfl) (by kernel_rfl) (by kernel_rfl) (by kernel_rfl) (fun k x => impll84_0 K k x.1 x.2.1) (fun _ => rfl) (fun k x => q84_0 K (impll84_0 K k) x.1 x.2.1) K
noncomputable def L84_1 (K : Nat) : Lib := mkLib ti [] [] 84 [(0, [n84_0 K])]
theorem lib84_1 (K : Nat) : LibOk Tryz.prog (L84_1 K) := libOk_mk (ents := []) (bodies := []) (loops := [(0, [n84_0 K])]) order tiOk trivial trivial Tryz.func84 rfl lp84 ⟨one_lent (n84_0_ok K), trivial⟩
noncomputable def implf84 (K : Nat) (x1 : ByteArray) : Option (Bool) :=
  (ob (impll84_0 K K x1 ((0 : Int))) fun y1 => (match y1 with | .inl y2 => (bif decide ((↑x1.size : Int) ≥ (1 : Int)) then some (decide ((↑x1.size : Int) ≤ (40 : Int))) else some (false)) | .inr y2 => some (y2)))
theorem q84 (K : Nat) (x1 : ByteArray) : evFnK (α := Bool) (L84_1 K) 3 84 Tryz.f84.results.toList (codeOf Tryz.f84) ins84 res84 (fun p => p.1) (x1, ()) = implf84 K x1 := by kernel_rfl
noncomputable def e84 (K : Nat) : Ent := ⟨ins84, res84, Bool, fun x => implf84 K x.1, fun _ => (fun y => (y, (()))), false⟩
theorem e84_ok (K : Nat) : EntOk Tryz.prog 84 (e84 K) := entOk_k (ins := ins84) (rs := res84) (α := Bool) (lib84_1 K) (d := 3) Tryz.func84 rfl (by kernel_rfl) (by kernel_rfl) (by kernel_rfl) (fun x => implf84 K x.1) (fun p => p.1) (fun y => (y, (()))) (fun _ => rfl) (fun x => q84 K x.1)

/-! diaphone/diaphoneref09.Read -/
abbrev ins44 : Fs := [(.dat (.str), false)]
abbrev res44 : Sh := .cons (.dat (.sl (.str))) (.cons (.dat (.str)) (.un))
theorem lp44 : loopsIn (codeOf Tryz.f44) 0 = [(0, loopOf 0 (codeOf Tryz.f44)), (2, loopOf 2 (codeOf Tryz.f44)), (4, loopOf 4 (codeOf Tryz.f44))] := by kernel_rfl
noncomputable def L44_0 (K : Nat) : Lib := mkLib ti [(47, [e47 K]), (84, [e84 K]), (85, [e85 K])] [] 44 []
theorem lib44_0 (K : Nat) : LibOk Tryz.prog (L44_0 K) := libOk_mk (ents := [(47, [e47 K]), (84, [e84 K]), (85, [e85 K])]) (bodies := []) (loops := []) order tiOk ⟨one_ent (e47_ok K), one_ent (e84_ok K), one_ent (e85_ok K), trivial⟩ trivial Tryz.func44 rfl lp44 ⟨no_lent, no_lent, no_lent, trivial⟩
abbrev i44_0 : Fs := [(.dat (.str), true), (.own (.str), true), (.dat (.int Go.IntKind.i64), true)]
abbrev i44_2 : Fs := [(.dat (.str), false), (.own (.str), false), (.dat (.int Go.IntKind.i64), false), (.dat (.int Go.IntKind.i64), false), (.dat (.int Go.IntKind.i64), true)]
noncomputable def implb44_2 (K : Nat) (rc : ByteArray → (List ByteArray) → Int → Int → Int → Option (Int × Unit)) (x1 : ByteArray) (x2 : (List ByteArray)) (x3 : Int) (x4 : Int) (x5 : Int) : Option (Int × Unit) :=
  (bif decide (x5 < (↑x1.size : Int)) then (if (0 : Int) ≤ x5 ∧ x5 < (↑x1.size : Int) then (bif bt x1 x5 != (10 : Int) then (rc x1 x2 x3 x4 (IntKind.i64.wrap (x5 + (1 : Int)))) else some ((x5, ()))) else none) else some ((x5, ())))
noncomputable def impll44_2 (K : Nat) : Nat → ByteArray → (List ByteArray) → Int → Int → Int → Option (Int × Unit)
  | 0, _, _, _, _, _ => none
  | k + 1, x1, x2, x3, x4, x5 => implb44_2 K (impll44_2 K k) x1 x2 x3 x4 x5
noncomputable def n44_2 (K : Nat) : Lent := ⟨[0, 4, 5, 6, 7], i44_2, [12, 13, 14, 15, 16, 17, 18, 19, 20, 21, 22, 23], [2], false, res44, fun x => impll44_2 K K x.1 x.2.1 x.2.2.1 x.2.2.2.1 x.2.2.2.2.1, [], none⟩
theorem q44_2 (K : Nat) (rc : ByteArray → (List ByteArray) → Int → Int → Int → Option (Int × Unit)) (x1 : ByteArray) (x2 : (List ByteArray)) (x3 : Int) (x4 : Int) (x5 : Int) : evLoop (L44_0 K) 3 44 Tryz.f44.results.toList (loopOf 2 (codeOf Tryz.f44)) 2 [0, 4, 5, 6, 7] [] i44_2 [2] false res44 (fun x => rc x.1 x.2.1 x.2.2.1 x.2.2.2.1 x.2.2.2.2.1) (x1, x2, x3, x4, x5, ()) = implb44_2 K rc x1 x2 x3 x4 x5 := by kernel_rfl
theorem lp44_2 : loopsIn (loopOf 2 (codeOf Tryz.f44)) 2 = [] := by kernel_rfl
theorem n44_2_ok (K : Nat) : LentOk Tryz.prog Tryz.f44 (loopOf 2 (codeOf Tryz.f44)) (n44_2 K) := lentOk_k (slots := [0, 4, 5, 6, 7]) (ali := []) (ins := i44_2) (writes := [12, 13, 14, 15, 16, 17, 18, 19, 20, 21, 22, 23]) (exits := [2]) (rets := false) (rs := res44) (d := 3) (lib44_0 K) lp44_2 trivial (by kernel_rfl) (by kernel_rfl) (by kernel_rfl) (by kernel_rfl) (by kernel_rfl) (fun k x => impll44_2 K k x.1 x.2.1 x.2.2.1 x.2.2.2.1 x.2.2.2.2.1) (fun _ => rfl) (fun k x => q44_2 K (impll44_2 K k) x.1 x.2.1 x.2.2.1 x.2.2.2.1 x.2.2.2.2.1) K
noncomputable def L44_1 (K : Nat) : Lib := mkLib ti [(47, [e47 K]), (84, [e84 K]), (85, [e85 K])] [] 44 [(2, [n44_2 K])]
theorem lib44_1 (K : Nat) : LibOk Tryz.prog (L44_1 K) := libOk_mk (ents := [(47, [e47 K]), (84, [e84 K]), (85, [e85 K])]) (bodies := []) (loops := [(2, [n44_2 K])]) order tiOk ⟨one_ent (e47_ok K), one_ent (e84_ok K), one_ent (e85_ok K), trivial⟩ trivial Tryz.func44 rfl lp44 ⟨no_lent, one_lent (n44_2_ok K), no_lent, trivial⟩
abbrev i44_4 : Fs := [(.dat (.str), false), (.own (.str), false), (.dat (.int Go.IntKind.i64), false), (.dat (.int Go.IntKind.i64), true), (.dat (.int Go.IntKind.i64), false)]
noncomputable def implb44_4 (K : Nat) (rc : ByteArray → (List ByteArray) → Int → Int → Int → Option (Int × Unit)) (x1 : ByteArray) (x2 : (List ByteArray)) (x3 : Int) (x4 : Int) (x5 : Int) : Option (Int × Unit) :=
  (bif decide (x4 < x5) then (if (0 : Int) ≤ x4 ∧ x4 < (↑x1.size : Int) then (bif bt x1 x4 != (32 : Int) then (rc x1 x2 x3 (IntKind.i64.wrap (x4 + (1 : Int))) x5) else some ((x4, ()))) else none) else some ((x4, ())))
noncomputable def impll44_4 (K : Nat) : Nat → ByteArray → (List ByteArray) → Int → Int → Int → Option (Int × Unit)
  | 0, _, _, _, _, _ => none
  | k + 1, x1, x2, x3, x4, x5 => implb44_4 K (impll44_4 K k) x1 x2 x3 x4 x5
noncomputable def n44_4 (K : Nat) : Lent := ⟨[0, 4, 5, 6, 7], i44_4, [24, 25, 26, 27, 28, 29, 30, 31, 32, 33, 34], [4], false, res44, fun x => impll44_4 K K x.1 x.2.1 x.2.2.1 x.2.2.2.1 x.2.2.2.2.1, [], none⟩
theorem q44_4 (K : Nat) (rc : ByteArray → (List ByteArray) → Int → Int → Int → Option (Int × Unit)) (x1 : ByteArray) (x2 : (List ByteArray)) (x3 : Int) (x4 : Int) (x5 : Int) : evLoop (L44_1 K) 3 44 Tryz.f44.results.toList (loopOf 4 (codeOf Tryz.f44)) 4 [0, 4, 5, 6, 7] [] i44_4 [4] false res44 (fun x => rc x.1 x.2.1 x.2.2.1 x.2.2.2.1 x.2.2.2.2.1) (x1, x2, x3, x4, x5, ()) = implb44_4 K rc x1 x2 x3 x4 x5 := by kernel_rfl
theorem lp44_4 : loopsIn (loopOf 4 (codeOf Tryz.f44)) 4 = [] := by kernel_rfl
theorem n44_4_ok (K : Nat) : LentOk Tryz.prog Tryz.f44 (loopOf 4 (codeOf Tryz.f44)) (n44_4 K) := lentOk_k (slots := [0, 4, 5, 6, 7]) (ali := []) (ins := i44_4) (writes := [24, 25, 26, 27, 28, 29, 30, 31, 32, 33, 34]) (exits := [4]) (rets := false) (rs := res44) (d := 3) (lib44_1 K) lp44_4 trivial (by kernel_rfl) (by kernel_rfl) (by kernel_rfl) (by kernel_rfl) (by kernel_rfl) (fun k x => impll44_4 K k x.1 x.2.1 x.2.2.1 x.2.2.2.1 x.2.2.2.2.1) (fun _ => rfl) (fun k x => q44_4 K (impll44_4 K k) x.1 x.2.1 x.2.2.1 x.2.2.2.1 x.2.2.2.2.1) K
noncomputable def L44_2 (K : Nat) : Lib := mkLib ti [(47, [e47 K]), (84, [e84 K]), (85, [e85 K])] [] 44 [(2, [n44_2 K]), (4, [n44_4 K])]
theorem lib44_2 (K : Nat) : LibOk Tryz.prog (L44_2 K) := libOk_mk (ents := [(47, [e47 K]), (84, [e84 K]), (85, [e85 K])]) (bodies := []) (loops := [(2, [n44_2 K]), (4, [n44_4 K])]) order tiOk ⟨one_ent (e47_ok K), one_ent (e84_ok K), one_ent (e85_ok K), trivial⟩ trivial Tryz.func44 rfl lp44 ⟨no_lent, one_lent (n44_2_ok K), one_lent (n44_4_ok K), trivial⟩
noncomputable def implb44_0 (K : Nat) (rc : ByteArray → (List ByteArray) → Int → Option (ByteArray × (List ByteArray) × Int × Unit)) (x1 : ByteArray) (x2 : (List ByteArray)) (x3 : Int) : Option (ByteArray × (List ByteArray) × Int × Unit) :=
  (bif decide ((↑x2.length : Int) < (100 : Int)) then (ob (impll44_2 K K x1 x2 x3 ((0 : Int)) ((0 : Int))) fun y1 => (ob (impll44_4 K K x1 x2 x3 ((0 : Int)) y1.1) fun y2 => (bif y1.1 == (↑x1.size : Int) then some ((x1, x2, x3, ())) else (bif y2.1 == y1.1 then some ((x1, x2, x3, ())) else (if (0 : Int) ≤ IntKind.i64.wrap (y2.1 + (1 : Int)) ∧ IntKind.i64.wrap (y2.1 + (1 : Int)) ≤ y1.1 ∧ y1.1 ≤ (↑x1.size : Int) then (ob (implf84 K (x1.extract (IntKind.i64.wrap (y2.1 + (1 : Int))).toNat y1.1.toNat)) fun y3 => (bif !y3 then some ((x1, x2, x3, ())) else (if (0 : Int) ≤ IntKind.i64.wrap (y2.1 + (1 : Int)) ∧ IntKind.i64.wrap (y2.1 + (1 : Int)) ≤ y1.1 ∧ y1.1 ≤ (↑x1.size : Int) then (ob (implf47 K x3 (x1.extract (IntKind.i64.wrap (y2.1 + (1 : Int))).toNat y1.1.toNat)) fun y4 => (ob (implf85 K y4) fun y5 => (if (0 : Int) ≤ (0 : Int) ∧ (0 : Int) ≤ y2.1 ∧ y2.1 ≤ (↑x1.size : Int) then (bif !y5.toList == (x1.extract (0) y2.1.toNat).toList then some ((x1, x2, x3, ())) else (ob (implf47 K x3 (x1.extract (IntKind.i64.wrap (y2.1 + (1 : Int))).toNat y1.1.toNat)) fun y6 => (if (x2.length + ((List.replicate 1 ByteArray.empty).set 0 (x1.extract (IntKind.i64.wrap (y2.1 + (1 : Int))).toNat y1.1.toNat)).length) * 16 ≤ 140737488355328 then (if (0 : Int) ≤ IntKind.i64.wrap (y1.1 + (1 : Int)) ∧ IntKind.i64.wrap (y1.1 + (1 : Int)) ≤ (↑x1.size : Int) ∧ (↑x1.size : Int) ≤ (↑x1.size : Int) then (rc (x1.extract (IntKind.i64.wrap (y1.1 + (1 : Int))).toNat (↑x1.size : Int).toNat) (x2 ++ (List.replicate 1 ByteArray.empty).set 0 (x1.extract (IntKind.i64.wrap (y2.1 + (1 : Int))).toNat y1.1.toNat)) y6) else none) else none))) else none))) else none))) else none))))) else some ((x1, x2, x3, ())))
noncomputable def impll44_0 (K : Nat) : Nat → ByteArray → (List ByteArray) → Int → Option (ByteArray × (List ByteArray) × Int × Unit)
  | 0, _, _, _ => none
  | k + 1, x1, x2, x3 => implb44_0 K (impll44_0 K k) x1 x2 x3
noncomputable def n44_0 (K : Nat) : Lent := ⟨[0, 4, 5], i44_0, [9, 10, 11, 6, 7, 12, 13, 14, 15, 16, 17, 18, 19, 20, 21, 22, 23, 24, 25, 26, 27, 28, 29, 30, 31, 32, 33, 34, 35, 36, 37, 38, 39, 40, 41, 42, 43, 44, 45, 46, 47, 48, 49, 50, 51, 52, 53, 54, 55, 56, 57, 8, 58, 59, 60, 61, 62, 63, 64, 65, 66, 67, 68, 69, 70, 71, 72, 73, 74, 75, 76], [0], false, res44, fun x => impll44_0 K K x.1 x.2.1 x.2.2.1, [], none⟩
theorem q44_0 (K : Nat) (rc : ByteArray → (List ByteArray) → Int → Option (ByteArray × (List ByteArray) × Int × Unit)) (x1 : ByteArray) (x2 : (List ByteArray)) (x3 : Int) : evLoop (L44_2 K) 3 44 Tryz.f44.results.toList (loopOf 0 (codeOf Tryz.f44)) 0 [0, 4, 5] [] i44_0 [0] false res44 (fun x => rc x.1 x.2.1 x.2.2.1) (x1, x2, x3, ()) = implb44_0 K rc x1 x2 x3 := by kernel_rfl
theorem lp44_0 : loopsIn (loopOf 0 (codeOf Tryz.f44)) 0 = [(2, loopOf 2 (codeOf Tryz.f44)), (4, loopOf 4 (codeOf Tryz.f44))] := by kernel_rfl
theorem n44_0_ok (K : Nat) : LentOk Tryz.prog Tryz.f44 (loopOf 0 (codeOf Tryz.f44)) (n44_0 K) := lentOk_k (slots := [0, 4, 5]) (ali := []) (ins := i44_0) (writes := [9, 10, 11, 6, 7, 12, 13, 14, 15, 16, 17, 18, 19, 20, 21, 22, 23, 24, 25, 26, 27, 28, 29, 30, 31, 32, 33, 34, 35, 36, 37, 38, 39, 40, 41, 42, 43, 44, 45, 46, 47, 48, 49, 50, 51, 52, 53, 54, 55, 56, 57, 8, 58, 59, 60, 61, 62, 63, 64, 65, 66, 67, 68, 69, 70, 71, 72, 73, 74, 75, 76]) (exits := [0]) (rets := false) (rs := res44) (d := 3) (lib44_2 K) lp44_0 ⟨one_lent (n44_2_ok K), one_lent (n44_4_ok K), trivial⟩ (by kernel_rfl) (by kernel_rfl) (by kernel_rfl) (by kernel_rfl) (by kernel_rfl) (fun k x => impll44_0 K k x.1 x.2.1 x.2.2.1) (fun _ => rfl) (fun k x => q44_0 K (impll44_0 K k) x.1 x.2.1 x.2.2.1) K
noncomputable def L44_3 (K : Nat) : Lib := mkLib ti [(47, [e47 K]), (84, [e84 K]), (85, [e85 K])] [] 44 [(2, [n44_2 K]), (4, [n44_4 K]), (0, [n44_0 K])]
theorem lib44_3 (K : Nat) : LibOk Tryz.prog (L44_3 K) := libOk_mk (ents := [(47, [e47 K]), (84, [e84 K]), (85, [e85 K])]) (bodies := []) (loops := [(2, [n44_2 K]), (4, [n44_4 K]), (0, [n44_0 K])]) order tiOk ⟨one_ent (e47_ok K), one_ent (e84_ok K), one_ent (e85_ok K), trivial⟩ trivial Tryz.func44 rfl lp44 ⟨one_lent (n44_0_ok K), one_lent (n44_2_ok K), one_lent (n44_4_ok K), trivial⟩
noncomputable def implf44 (K : Nat) (x1 : ByteArray) : Option ((List ByteArray) × ByteArray) :=
  (ob (impll44_0 K K x1 [] ((0 : Int))) fun y1 => some ((y1.2.1, y1.1)))
theorem q44 (K : Nat) (x1 : ByteArray) : evFnK (α := (List ByteArray) × ByteArray) (L44_3 K) 3 44 Tryz.f44.results.toList (codeOf Tryz.f44) ins44 res44 (fun p => (p.1.1, p.1.2.1)) (x1, ()) = implf44 K x1 := by kernel_rfl
noncomputable def e44 (K : Nat) : Ent := ⟨ins44, res44, (List ByteArray) × ByteArray, fun x => implf44 K x.1, fun _ => (fun y => ((y.1, y.2, ()), (()))), false⟩
theorem e44_ok (K : Nat) : EntOk Tryz.prog 44 (e44 K) := entOk_k (ins := ins44) (rs := res44) (α := (List ByteArray) × ByteArray) (lib44_3 K) (d := 3) Tryz.func44 rfl (by kernel_rfl) (by kernel_rfl) (by kernel_rfl) (fun x => implf44 K x.1) (fun p => (p.1.1, p.1.2.1)) (fun y => ((y.1, y.2, ()), (()))) (fun _ => rfl) (fun x => q44 K x.1)

/-! diaphone/diaphoneref09.SameTexts -/
abbrev ins45 : Fs := [(.dat (.sl (.str)), false), (.dat (.sl (.str)), false)]
abbrev res45 : Sh := .dat (.bool)
theorem lp45 : loopsIn (codeOf Tryz.f45) 0 = [(0, loopOf 0 (codeOf Tryz.f45))] := by kernel_rfl
noncomputable def L45_0 (K : Nat) : Lib := mkLib ti [] [] 45 []
theorem lib45_0 (K : Nat) : LibOk Tryz.prog (L45_0 K) := libOk_mk (ents := []) (bodies := []) (loops := []) order tiOk trivial trivial Tryz.func45 rfl lp45 ⟨no_lent, trivial⟩
abbrev i45_0 : Fs := [(.dat (.sl (.str)), false), (.dat (.sl (.str)), false), (.dat (.int Go.IntKind.i64), true)]
noncomputable def implb45_0 (K : Nat) (rc : (List ByteArray) → (List ByteArray) → Int → Option (Sum (Int × Unit) Bool)) (x1 : (List ByteArray)) (x2 : (List ByteArray)) (x3 : Int) : Option (Sum (Int × Unit) Bool) :=
  (bif decide (x3 < (↑x1.length : Int)) then (if (0 : Int) ≤ x3 ∧ x3 < (↑x1.length : Int) then (if (0 : Int) ≤ x3 ∧ x3 < (↑x2.length : Int) then (bif !(x1.getD x3.toNat ByteArray.empty).toList == (x2.getD x3.toNat ByteArray.empty).toList then some (Sum.inr false) else (rc x1 x2 (IntKind.i64.wrap (x3 + (1 : Int))))) else none) else none) else some (Sum.inl (x3, ())))
noncomputable def impll45_0 (K : Nat) : Nat → (List ByteArray) → (List ByteArray) → Int → Option (Sum (Int × Unit) Bool)
  | 0, _, _, _ => none
  | k + 1, x1, x2, x3 => implb45_0 K (impll45_0 K k) x1 x2 x3
noncomputable def n45_0 (K : Nat) : Lent := ⟨[0, 1, 5], i45_0, [11, 12, 13, 14, 17, 18, 19, 20, 21, 22, 23, 24, 25, 4, 15, 16], [0], true, res45, fun x => impll45_0 K K x.1 x.2.1 x.2.2.1, [], none⟩
theorem q45_0 (K : Nat) (rc : (List ByteArray) → (List ByteArray) → Int → Option (Sum (Int × Unit) Bool)) (x1 : (List ByteArray)) (x2 : (List ByteArray)) (x3 : Int) : evLoop (L45_0 K) 3 45 Tryz.f45.results.toList (loopOf 0 (codeOf Tryz.f45)) 0 [0, 1, 5] [] i45_0 [0] true res45 (fun x => rc x.1 x.2.1 x.2.2.1) (x1, x2, x3, ()) = implb45_0 K rc x1 x2 x3 := by kernel_rfl
theorem lp45_0 : loopsIn (loopOf 0 (codeOf Tryz.f45)) 0 = [] := by kernel_rfl
theorem n45_0_ok (K : Nat) : LentOk Tryz.prog Tryz.f45 (loopOf 0 (codeOf Tryz.f45)) (n45_0 K) := lentOk_k (slots := [0, 1, 5]) (ali := []) (ins := i45_0) (writes := [11, 12, 13, 14, 17, 18, 19, 20, 21, 22, 23, 24, 25, 4, 15, 16]) (exits := [0]) (rets := true) (rs := res45) (d := 3) (lib45_0 K) lp45_0 trivial (by kernel_rfl) (by kernel_rfl) (by kernel_rfl) (by kernel_rfl) (by kernel_rfl) (fun k x => impll45_0 K k x.1 x.2.1 x.2.2.1) (fun _ => rfl) (fun k x => q45_0 K (impll45_0 K k) x.1 x.2.1 x.2.2.1) K
noncomputable def L45_1 (K : Nat) : Lib := mkLib ti [] [] 45 [(0, [n45_0 K])]
theorem lib45_1 (K : Nat) : LibOk Tryz.prog (L45_1 K) := libOk_mk (ents := []) (bodies := []) (loops := [(0, [n45_0 K])]) order tiOk trivial trivial Tryz.func45 rfl lp45 ⟨one_lent (n45_0_ok K), trivial⟩
noncomputable def implf45 (K : Nat) (x1 : (List ByteArray)) (x2 : (List ByteArray)) : Option (Bool) :=
  (bif (↑x1.length : Int) != (↑x2.length : Int) then some (false) else (ob (impll45_0 K K x1 x2 ((0 : Int))) fun y1 => (match y1 with | .inl y2 => some (true) | .inr y2 => some (y2))))
theorem q45 (K : Nat) (x1 : (List ByteArray)) (x2 : (List ByteArray)) : evFnK (α := Bool) (L45_1 K) 3 45 Tryz.f45.results.toList (codeOf Tryz.f45) ins45 res45 (fun p => p.1) (x1, x2, ()) = implf45 K x1 x2 := by kernel_rfl
noncomputable def e45 (K : Nat) : Ent := ⟨ins45, res45, Bool, fun x => implf45 K x.1 x.2.1, fun _ => (fun y => (y, (()))), false⟩
theorem e45_ok (K : Nat) : EntOk Tryz.prog 45 (e45 K) := entOk_k (ins := ins45) (rs := res45) (α := Bool) (lib45_1 K) (d := 3) Tryz.func45 rfl (by kernel_rfl) (by kernel_rfl) (by kernel_rfl) (fun x => implf45 K x.1 x.2.1) (fun p => p.1) (fun y => (y, (()))) (fun _ => rfl) (fun x => q45 K x.1 x.2.1)

/-! diaphone/diaphoneref09.Write -/
abbrev ins48 : Fs := [(.dat (.sl (.str)), false)]
abbrev res48 : Sh := .cons (.dat (.str)) (.cons (.dat (.int .i64)) (.un))
theorem lp48 : loopsIn (codeOf Tryz.f48) 0 = [(0, loopOf 0 (codeOf Tryz.f48))] := by kernel_rfl
noncomputable def L48_0 (K : Nat) : Lib := mkLib ti [(53, [e53 K]), (84, [e84 K])] [] 48 []
theorem lib48_0 (K : Nat) : LibOk Tryz.prog (L48_0 K) := libOk_mk (ents := [(53, [e53 K]), (84, [e84 K])]) (bodies := []) (loops := []) order tiOk ⟨one_ent (e53_ok K), one_ent (e84_ok K), trivial⟩ trivial Tryz.func48 rfl lp48 ⟨no_lent, trivial⟩
abbrev i48_0 : Fs := [(.dat (.sl (.str)), false), (.dat (.int Go.IntKind.i64), true)]
noncomputable def implb48_0 (K : Nat) (rc : (List ByteArray) → Int → Option (Sum (Int × Unit) (ByteArray × Int × Unit))) (x1 : (List ByteArray)) (x2 : Int) : Option (Sum (Int × Unit) (ByteArray × Int × Unit)) :=
  (bif decide (x2 < (↑x1.length : Int)) then (if (0 : Int) ≤ x2 ∧ x2 < (↑x1.length : Int) then (ob (implf84 K (x1.getD x2.toNat ByteArray.empty)) fun y1 => (bif !y1 then some (Sum.inr (ByteArray.mk #[], (1 : Int), ())) else (rc x1 (IntKind.i64.wrap (x2 + (1 : Int)))))) else none) else some (Sum.inl (x2, ())))
noncomputable def impll48_0 (K : Nat) : Nat → (List ByteArray) → Int → Option (Sum (Int × Unit) (ByteArray × Int × Unit))
  | 0, _, _ => none
  | k + 1, x1, x2 => implb48_0 K (impll48_0 K k) x1 x2
noncomputable def n48_0 (K : Nat) : Lent := ⟨[0, 4], i48_0, [8, 9, 10, 11, 14, 15, 16, 17, 18, 19, 2, 3, 12, 13], [0], true, res48, fun x => impll48_0 K K x.1 x.2.1, [], none⟩
theorem q48_0 (K : Nat) (rc : (List ByteArray) → Int → Option (Sum (Int × Unit) (ByteArray × Int × Unit))) (x1 : (List ByteArray)) (x2 : Int) : evLoop (L48_0 K) 3 48 Tryz.f48.results.toList (loopOf 0 (codeOf Tryz.f48)) 0 [0, 4] [] i48_0 [0] true res48 (fun x => rc x.1 x.2.1) (x1, x2, ()) = implb48_0 K rc x1 x2 := by kernel_rfl
theorem lp48_0 : loopsIn (loopOf 0 (codeOf Tryz.f48)) 0 = [] := by kernel_rfl
theorem n48_0_ok (K : Nat) : LentOk Tryz.prog Tryz.f48 (loopOf 0 (codeOf Tryz.f48)) (n48_0 K) := lentOk_k (slots := [0, 4]) (ali := []) (ins := i48_0) (writes := [8, 9, 10, 11, 14, 15, 16, 17, 18, 19, 2, 3, 12, 13]) (exits := [0]) (rets := true) (rs := res48) (d := 3) (lib48_0 K) lp48_0 trivial (by kernel_rfl) (by kernel_rfl) (by kernel_rfl) (by kernel_rfl) (by kernel_rfl) (fun k x => impll48_0 K k x.1 x.2.1) (fun _ => rfl) (fun k x => q48_0 K (impll48_0 K k) x.1 x.2.1) K
noncomputable def L48_1 (K : Nat) : Lib := mkLib ti [(53, [e53 K]), (84, [e84 K])] [] 48 [(0, [n48_0 K])]
theorem lib48_1 (K : Nat) : LibOk Tryz.prog (L48_1 K) := libOk_mk (ents := [(53, [e53 K]), (84, [e84 K])]) (bodies := []) (loops := [(0, [n48_0 K])]) order tiOk ⟨one_ent (e53_ok K), one_ent (e84_ok K), trivial⟩ trivial Tryz.func48 rfl lp48 ⟨one_lent (n48_0_ok K), trivial⟩
noncomputable def implf48 (K : Nat) (x1 : (List ByteArray)) : Option (ByteArray × Int) :=
  (bif decide ((↑x1.length : Int) > (100 : Int)) then some ((ByteArray.mk #[], (3 : Int))) else (ob (impll48_0 K K x1 ((0 : Int))) fun y1 => (match y1 with | .inl y2 => (ob (implf53 K x1) fun y3 => some ((y3, (0 : Int)))) | .inr y2 => some ((y2.1, y2.2.1)))))
theorem q48 (K : Nat) (x1 : (List ByteArray)) : evFnK (α := ByteArray × Int) (L48_1 K) 3 48 Tryz.f48.results.toList (codeOf Tryz.f48) ins48 res48 (fun p => (p.1.1, p.1.2.1)) (x1, ()) = implf48 K x1 := by kernel_rfl
noncomputable def e48 (K : Nat) : Ent := ⟨ins48, res48, ByteArray × Int, fun x => implf48 K x.1, fun _ => (fun y => ((y.1, y.2, ()), (()))), false⟩
theorem e48_ok (K : Nat) : EntOk Tryz.prog 48 (e48 K) := entOk_k (ins := ins48) (rs := res48) (α := ByteArray × Int) (lib48_1 K) (d := 3) Tryz.func48 rfl (by kernel_rfl) (by kernel_rfl) (by kernel_rfl) (fun x => implf48 K x.1) (fun p => (p.1.1, p.1.2.1)) (fun y => ((y.1, y.2, ()), (()))) (fun _ => rfl) (fun x => q48 K x.1)

/-! diaphone/diaphonelaw09.StationWrites -/
abbrev ins9 : Fs := [(.dat (.sl (.str)), false), (.dat (.int .i64), false)]
abbrev res9 : Sh := .dat (.bool)
theorem lp9 : loopsIn (codeOf Tryz.f9) 0 = [] := by kernel_rfl
noncomputable def L9_0 (K : Nat) : Lib := mkLib ti [(19, [e19 K]), (22, [e22 K]), (26, [e26 K]), (27, [e27 K]), (45, [e45 K]), (48, [e48 K])] [] 9 []
theorem lib9_0 (K : Nat) : LibOk Tryz.prog (L9_0 K) := libOk_mk (ents := [(19, [e19 K]), (22, [e22 K]), (26, [e26 K]), (27, [e27 K]), (45, [e45 K]), (48, [e48 K])]) (bodies := []) (loops := []) order tiOk ⟨one_ent (e19_ok K), one_ent (e22_ok K), one_ent (e26_ok K), one_ent (e27_ok K), one_ent (e45_ok K), one_ent (e48_ok K), trivial⟩ trivial Tryz.func9 rfl lp9 trivial
noncomputable def implf9 (K : Nat) (x1 : (List ByteArray)) (x2 : Int) : Option (Bool) :=
  (ob (implf26 K x1) fun y1 => (bif y1 then (ob (implf27 K) fun y2 => some (y2)) else (ob (implf22 K x1) fun y3 => (ob (implf48 K x1) fun y4 => (bif !y3.1.toList == y4.1.toList then some (false) else (bif y3.2 != y4.2 then some (false) else (bif y3.2 != (0 : Int) then (ob (implf27 K) fun y5 => some (y5)) else (ob (implf19 K y3.1) fun y6 => (bif !y6.2.toList == (ByteArray.mk #[]).toList then some (false) else (ob (implf45 K y6.1 x1) fun y7 => (bif !y7 then some (false) else (if IntKind.u64.wrap (IntKind.i64.wrap ((↑y3.1.size : Int) + (1 : Int))) = (0 : Int) then none else (if (0 : Int) ≤ (0 : Int) ∧ (0 : Int) ≤ IntKind.i64.wrap ((IntKind.u64.wrap x2).tmod (IntKind.u64.wrap (IntKind.i64.wrap ((↑y3.1.size : Int) + (1 : Int))))) ∧ IntKind.i64.wrap ((IntKind.u64.wrap x2).tmod (IntKind.u64.wrap (IntKind.i64.wrap ((↑y3.1.size : Int) + (1 : Int))))) ≤ (↑y3.1.size : Int) then (ob (implf19 K (y3.1.extract (0) (IntKind.i64.wrap ((IntKind.u64.wrap x2).tmod (IntKind.u64.wrap (IntKind.i64.wrap ((↑y3.1.size : Int) + (1 : Int)))))).toNat)) fun y8 => (bif decide ((↑y8.1.length : Int) ≤ (↑x1.length : Int)) then (if (0 : Int) ≤ (↑y8.1.length : Int) ∧ (↑y8.1.length : Int) ≤ (↑y8.1.length : Int) ∧ (↑y8.1.length : Int) ≤ (↑x1.length : Int) then (ob (implf45 K y8.1 (List.take (↑y8.1.length : Int).toNat x1)) fun y9 => (bif y9 then (bif y8.2.toList == (ByteArray.mk #[]).toList then (ob (implf27 K) fun y10 => some (y10)) else (bif decide ((↑y8.1.length : Int) < (↑x1.length : Int)) then (ob (implf27 K) fun y11 => some (y11)) else some (false))) else some (false))) else none) else some (false))) else none)))))))))))))
theorem q9 (K : Nat) (x1 : (List ByteArray)) (x2 : Int) : evFnK (α := Bool) (L9_0 K) 3 9 Tryz.f9.results.toList (codeOf Tryz.f9) ins9 res9 (fun p => p.1) (x1, x2, ()) = implf9 K x1 x2 := by kernel_rfl
noncomputable def e9 (K : Nat) : Ent := ⟨ins9, res9, Bool, fun x => implf9 K x.1 x.2.1, fun _ => (fun y => (y, (()))), false⟩
theorem e9_ok (K : Nat) : EntOk Tryz.prog 9 (e9 K) := entOk_k (ins := ins9) (rs := res9) (α := Bool) (lib9_0 K) (d := 3) Tryz.func9 rfl (by kernel_rfl) (by kernel_rfl) (by kernel_rfl) (fun x => implf9 K x.1 x.2.1) (fun p => p.1) (fun y => (y, (()))) (fun _ => rfl) (fun x => q9 K x.1 x.2.1)

end Go.Proofs.YtbpjodikknbcoaaGreatDoor
