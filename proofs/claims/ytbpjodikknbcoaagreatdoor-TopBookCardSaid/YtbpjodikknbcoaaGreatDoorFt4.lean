/- What the functions compute: printed by a program of this claim's author. -/
import Derived.Test.YtbpjodikknbcoaaGreatDoorFt3
set_option maxRecDepth 100000
set_option linter.unusedVariables false
set_option linter.unusedSimpArgs false
namespace Go.Proofs.YtbpjodikknbcoaaGreatDoor
open Go Go.Pv
/-! (*diaphone/station.Station).Hour -/
abbrev ins56a : Fs := [(.box (.dat (.pr (.pr (.int .i32) (.int .u32)) (.pr (.sl (.int .i64)) (.pr (.sl (.int .i64)) (.pr (.pr (.sl (.arr 2 (.int .i64))) (.sl (.int .i64))) (.pr (.int .i64) (.pr (.bool) (.pr (.int .i64) (.pr (.int .i64) (.pr (.int .i64) (.pr (.int .i64) (.pr (.int .i64) (.pr (.int .i64) (.pr (.int .i64) (.pr (.int .i64) (.pr (.int .i64) (.pr (.int .i64) (.sl (.str))))))))))))))))))), false)]
abbrev res56a : Sh := .dat (.int .i64)
theorem lp56 : loopsIn (codeOf Tryz.f56) 0 = [] := by kernel_rfl
noncomputable def L56a_0 (K : Nat) : Lib := mkLib ti [(68, [e68a K, e68b K])] [] 56 []
theorem lib56a_0 (K : Nat) : LibOk Tryz.prog (L56a_0 K) := libOk_mk (ents := [(68, [e68a K, e68b K])]) (bodies := []) (loops := []) order tiOk ⟨more_ent (e68a_ok K) (one_ent (e68b_ok K)), trivial⟩ trivial Tryz.func56 rfl lp56 trivial
noncomputable def implf56a (K : Nat) (x1 : STN) : Option (Int) :=
  (ob (implf68a K x1) fun y1 => some (y1.1))
theorem q56a (K : Nat) (x1 : STN) : evFnK (α := Int) (L56a_0 K) 3 56 Tryz.f56.results.toList (codeOf Tryz.f56) ins56a res56a (fun p => p.1) (x1, ()) = implf56a K x1 := by kernel_rfl
noncomputable def e56a (K : Nat) : Ent := ⟨ins56a, res56a, Int, fun x => implf56a K x.1, fun _ => (fun y => (y, (()))), false⟩
theorem e56a_ok (K : Nat) : EntOk Tryz.prog 56 (e56a K) := entOk_k (ins := ins56a) (rs := res56a) (α := Int) (lib56a_0 K) (d := 3) Tryz.func56 rfl (by kernel_rfl) (by kernel_rfl) (by kernel_rfl) (fun x => implf56a K x.1) (fun p => p.1) (fun y => (y, (()))) (fun _ => rfl) (fun x => q56a K x.1)

abbrev ins56b : Fs := [(.dat .np, false)]
abbrev res56b : Sh := .dat (.int .i64)
noncomputable def L56b_0 (K : Nat) : Lib := mkLib ti [(68, [e68a K, e68b K])] [] 56 []
theorem lib56b_0 (K : Nat) : LibOk Tryz.prog (L56b_0 K) := libOk_mk (ents := [(68, [e68a K, e68b K])]) (bodies := []) (loops := []) order tiOk ⟨more_ent (e68a_ok K) (one_ent (e68b_ok K)), trivial⟩ trivial Tryz.func56 rfl lp56 trivial
noncomputable def implf56b (K : Nat) (x1 : Unit) : Option (Int) :=
  (ob (implf68b K x1) fun y1 => some (y1.1))
theorem q56b (K : Nat) (x1 : Unit) : evFnK (α := Int) (L56b_0 K) 3 56 Tryz.f56.results.toList (codeOf Tryz.f56) ins56b res56b (fun p => p.1) (x1, ()) = implf56b K x1 := by kernel_rfl
noncomputable def e56b (K : Nat) : Ent := ⟨ins56b, res56b, Int, fun x => implf56b K x.1, fun _ => (fun y => (y, (()))), false⟩
theorem e56b_ok (K : Nat) : EntOk Tryz.prog 56 (e56b K) := entOk_k (ins := ins56b) (rs := res56b) (α := Int) (lib56b_0 K) (d := 3) Tryz.func56 rfl (by kernel_rfl) (by kernel_rfl) (by kernel_rfl) (fun x => implf56b K x.1) (fun p => p.1) (fun y => (y, (()))) (fun _ => rfl) (fun x => q56b K x.1)

/-! (*diaphone/station.Station).State -/
abbrev ins57a : Fs := [(.box (.dat (.pr (.pr (.int .i32) (.int .u32)) (.pr (.sl (.int .i64)) (.pr (.sl (.int .i64)) (.pr (.pr (.sl (.arr 2 (.int .i64))) (.sl (.int .i64))) (.pr (.int .i64) (.pr (.bool) (.pr (.int .i64) (.pr (.int .i64) (.pr (.int .i64) (.pr (.int .i64) (.pr (.int .i64) (.pr (.int .i64) (.pr (.int .i64) (.pr (.int .i64) (.pr (.int .i64) (.pr (.int .i64) (.sl (.str))))))))))))))))))), false)]
abbrev res57a : Sh := .dat (.int .i64)
theorem lp57 : loopsIn (codeOf Tryz.f57) 0 = [] := by kernel_rfl
noncomputable def L57a_0 (K : Nat) : Lib := mkLib ti [(68, [e68a K, e68b K])] [] 57 []
theorem lib57a_0 (K : Nat) : LibOk Tryz.prog (L57a_0 K) := libOk_mk (ents := [(68, [e68a K, e68b K])]) (bodies := []) (loops := []) order tiOk ⟨more_ent (e68a_ok K) (one_ent (e68b_ok K)), trivial⟩ trivial Tryz.func57 rfl lp57 trivial
noncomputable def implf57a (K : Nat) (x1 : STN) : Option (Int) :=
  (ob (implf68a K x1) fun y1 => some (y1.2.2.1))
theorem q57a (K : Nat) (x1 : STN) : evFnK (α := Int) (L57a_0 K) 3 57 Tryz.f57.results.toList (codeOf Tryz.f57) ins57a res57a (fun p => p.1) (x1, ()) = implf57a K x1 := by kernel_rfl
noncomputable def e57a (K : Nat) : Ent := ⟨ins57a, res57a, Int, fun x => implf57a K x.1, fun _ => (fun y => (y, (()))), false⟩
theorem e57a_ok (K : Nat) : EntOk Tryz.prog 57 (e57a K) := entOk_k (ins := ins57a) (rs := res57a) (α := Int) (lib57a_0 K) (d := 3) Tryz.func57 rfl (by kernel_rfl) (by kernel_rfl) (by kernel_rfl) (fun x => implf57a K x.1) (fun p => p.1) (fun y => (y, (()))) (fun _ => rfl) (fun x => q57a K x.1)

abbrev ins57b : Fs := [(.dat .np, false)]
abbrev res57b : Sh := .dat (.int .i64)
noncomputable def L57b_0 (K : Nat) : Lib := mkLib ti [(68, [e68a K, e68b K])] [] 57 []
theorem lib57b_0 (K : Nat) : LibOk Tryz.prog (L57b_0 K) := libOk_mk (ents := [(68, [e68a K, e68b K])]) (bodies := []) (loops := []) order tiOk ⟨more_ent (e68a_ok K) (one_ent (e68b_ok K)), trivial⟩ trivial Tryz.func57 rfl lp57 trivial
noncomputable def implf57b (K : Nat) (x1 : Unit) : Option (Int) :=
  (ob (implf68b K x1) fun y1 => some (y1.2.2.1))
theorem q57b (K : Nat) (x1 : Unit) : evFnK (α := Int) (L57b_0 K) 3 57 Tryz.f57.results.toList (codeOf Tryz.f57) ins57b res57b (fun p => p.1) (x1, ()) = implf57b K x1 := by kernel_rfl
noncomputable def e57b (K : Nat) : Ent := ⟨ins57b, res57b, Int, fun x => implf57b K x.1, fun _ => (fun y => (y, (()))), false⟩
theorem e57b_ok (K : Nat) : EntOk Tryz.prog 57 (e57b K) := entOk_k (ins := ins57b) (rs := res57b) (α := Int) (lib57b_0 K) (d := 3) Tryz.func57 rfl (by kernel_rfl) (by kernel_rfl) (by kernel_rfl) (fun x => implf57b K x.1) (fun p => p.1) (fun y => (y, (()))) (fun _ => rfl) (fun x => q57b K x.1)

/-! (*diaphone/station.Station).Foggy -/
abbrev ins58a : Fs := [(.box (.dat (.pr (.pr (.int .i32) (.int .u32)) (.pr (.sl (.int .i64)) (.pr (.sl (.int .i64)) (.pr (.pr (.sl (.arr 2 (.int .i64))) (.sl (.int .i64))) (.pr (.int .i64) (.pr (.bool) (.pr (.int .i64) (.pr (.int .i64) (.pr (.int .i64) (.pr (.int .i64) (.pr (.int .i64) (.pr (.int .i64) (.pr (.int .i64) (.pr (.int .i64) (.pr (.int .i64) (.pr (.int .i64) (.sl (.str))))))))))))))))))), false)]
abbrev res58a : Sh := .dat (.int .i64)
theorem lp58 : loopsIn (codeOf Tryz.f58) 0 = [] := by kernel_rfl
noncomputable def L58a_0 (K : Nat) : Lib := mkLib ti [(68, [e68a K, e68b K])] [] 58 []
theorem lib58a_0 (K : Nat) : LibOk Tryz.prog (L58a_0 K) := libOk_mk (ents := [(68, [e68a K, e68b K])]) (bodies := []) (loops := []) order tiOk ⟨more_ent (e68a_ok K) (one_ent (e68b_ok K)), trivial⟩ trivial Tryz.func58 rfl lp58 trivial
noncomputable def implf58a (K : Nat) (x1 : STN) : Option (Int) :=
  (ob (implf68a K x1) fun y1 => some (y1.2.2.2.2.2.1))
theorem q58a (K : Nat) (x1 : STN) : evFnK (α := Int) (L58a_0 K) 3 58 Tryz.f58.results.toList (codeOf Tryz.f58) ins58a res58a (fun p => p.1) (x1, ()) = implf58a K x1 := by kernel_rfl
noncomputable def e58a (K : Nat) : Ent := ⟨ins58a, res58a, Int, fun x => implf58a K x.1, fun _ => (fun y => (y, (()))), false⟩
theorem e58a_ok (K : Nat) : EntOk Tryz.prog 58 (e58a K) := entOk_k (ins := ins58a) (rs := res58a) (α := Int) (lib58a_0 K) (d := 3) Tryz.func58 rfl (by kernel_rfl) (by kernel_rfl) (by kernel_rfl) (fun x => implf58a K x.1) (fun p => p.1) (fun y => (y, (()))) (fun _ => rfl) (fun x => q58a K x.1)

abbrev ins58b : Fs := [(.dat .np, false)]
abbrev res58b : Sh := .dat (.int .i64)
noncomputable def L58b_0 (K : Nat) : Lib := mkLib ti [(68, [e68a K, e68b K])] [] 58 []
theorem lib58b_0 (K : Nat) : LibOk Tryz.prog (L58b_0 K) := libOk_mk (ents := [(68, [e68a K, e68b K])]) (bodies := []) (loops := []) order tiOk ⟨more_ent (e68a_ok K) (one_ent (e68b_ok K)), trivial⟩ trivial Tryz.func58 rfl lp58 trivial
noncomputable def implf58b (K : Nat) (x1 : Unit) : Option (Int) :=
  (ob (implf68b K x1) fun y1 => some (y1.2.2.2.2.2.1))
theorem q58b (K : Nat) (x1 : Unit) : evFnK (α := Int) (L58b_0 K) 3 58 Tryz.f58.results.toList (codeOf Tryz.f58) ins58b res58b (fun p => p.1) (x1, ()) = implf58b K x1 := by kernel_rfl
noncomputable def e58b (K : Nat) : Ent := ⟨ins58b, res58b, Int, fun x => implf58b K x.1, fun _ => (fun y => (y, (()))), false⟩
theorem e58b_ok (K : Nat) : EntOk Tryz.prog 58 (e58b K) := entOk_k (ins := ins58b) (rs := res58b) (α := Int) (lib58b_0 K) (d := 3) Tryz.func58 rfl (by kernel_rfl) (by kernel_rfl) (by kernel_rfl) (fun x => implf58b K x.1) (fun p => p.1) (fun y => (y, (()))) (fun _ => rfl) (fun x => q58b K x.1)

/-! diaphone/diaphonelaw09.Balanced -/
abbrev ins39 : Fs := [(.box (.dat (.pr (.pr (.int .i32) (.int .u32)) (.pr (.sl (.int .i64)) (.pr (.sl (.int .i64)) (.pr (.pr (.sl (.arr 2 (.int .i64))) (.sl (.int .i64))) (.pr (.int .i64) (.pr (.bool) (.pr (.int .i64) (.pr (.int .i64) (.pr (.int .i64) (.pr (.int .i64) (.pr (.int .i64) (.pr (.int .i64) (.pr (.int .i64) (.pr (.int .i64) (.pr (.int .i64) (.pr (.int .i64) (.sl (.str))))))))))))))))))), false), (.dat (.pr (.sl (.int .i64)) (.pr (.sl (.int .i64)) (.pr (.sl (.arr 2 (.int .i64))) (.sl (.int .i64))))), false)]
abbrev res39 : Sh := .dat (.bool)
theorem lp39 : loopsIn (codeOf Tryz.f39) 0 = [] := by kernel_rfl
noncomputable def L39_0 (K : Nat) : Lib := mkLib ti [(33, [e33a K, e33b K]), (37, [e37a K, e37b K]), (38, [e38a K, e38b K]), (56, [e56a K, e56b K]), (57, [e57a K, e57b K]), (58, [e58a K, e58b K]), (59, [e59a K, e59b K])] [] 39 []
theorem lib39_0 (K : Nat) : LibOk Tryz.prog (L39_0 K) := libOk_mk (ents := [(33, [e33a K, e33b K]), (37, [e37a K, e37b K]), (38, [e38a K, e38b K]), (56, [e56a K, e56b K]), (57, [e57a K, e57b K]), (58, [e58a K, e58b K]), (59, [e59a K, e59b K])]) (bodies := []) (loops := []) order tiOk ⟨more_ent (e33a_ok K) (one_ent (e33b_ok K)), more_ent (e37a_ok K) (one_ent (e37b_ok K)), more_ent (e38a_ok K) (one_ent (e38b_ok K)), more_ent (e56a_ok K) (one_ent (e56b_ok K)), more_ent (e57a_ok K) (one_ent (e57b_ok K)), more_ent (e58a_ok K) (one_ent (e58b_ok K)), more_ent (e59a_ok K) (one_ent (e59b_ok K)), trivial⟩ trivial Tryz.func39 rfl lp39 trivial
noncomputable def implf39 (K : Nat) (x1 : STN) (x2 : KIT) : Option (Bool) :=
  (ob (implf58a K x1) fun y1 => (ob (implf56a K x1) fun y2 => (bif decide (y1 ≤ y2) then (ob (implf38a K x1) fun y3 => (ob (implf59a K x1) fun y4 => (ob (implf56a K x1) fun y5 => (bif decide (IntKind.i64.wrap (y3 + y4) ≤ y5) then (ob (implf58a K x1) fun y6 => (bif decide (y6 ≥ (0 : Int)) then (ob (implf38a K x1) fun y7 => (bif decide (y7 ≥ (0 : Int)) then (ob (implf59a K x1) fun y8 => (bif decide (y8 ≥ (0 : Int)) then (ob (implf37a K x1) fun y9 => (bif decide (y9 ≥ (0 : Int)) then (ob (implf37a K x1) fun y10 => (bif decide (y10 ≤ (500 : Int)) then (ob (implf33a K x1) fun y11 => (bif decide (y11 ≥ (0 : Int)) then (ob (implf33a K x1) fun y12 => (bif decide (y12 ≤ (500 : Int)) then (ob (implf57a K x1) fun y13 => (bif decide (y13 ≥ (0 : Int)) then (ob (implf57a K x1) fun y14 => some (decide (y14 < (↑x2.2.2.2.length : Int)))) else some (false))) else some (false))) else some (false))) else some (false))) else some (false))) else some (false))) else some (false))) else some (false))) else some (false))))) else some (false))))
theorem q39 (K : Nat) (x1 : STN) (x2 : KIT) : evFnK (α := Bool) (L39_0 K) 3 39 Tryz.f39.results.toList (codeOf Tryz.f39) ins39 res39 (fun p => p.1) (x1, x2, ()) = implf39 K x1 x2 := by kernel_rfl
noncomputable def e39 (K : Nat) : Ent := ⟨ins39, res39, Bool, fun x => implf39 K x.1 x.2.1, fun _ => (fun y => (y, (()))), false⟩
theorem e39_ok (K : Nat) : EntOk Tryz.prog 39 (e39 K) := entOk_k (ins := ins39) (rs := res39) (α := Bool) (lib39_0 K) (d := 3) Tryz.func39 rfl (by kernel_rfl) (by kernel_rfl) (by kernel_rfl) (fun x => implf39 K x.1 x.2.1) (fun p => p.1) (fun y => (y, (()))) (fun _ => rfl) (fun x => q39 K x.1 x.2.1)

/-! diaphone/diaphoneref09.Sum -/
abbrev ins47 : Fs := [(.dat (.int .i64), false), (.dat (.str), false)]
abbrev res47 : Sh := .dat (.int .i64)
theorem lp47 : loopsIn (codeOf Tryz.f47) 0 = [(0, loopOf 0 (codeOf Tryz.f47))] := by kernel_rfl
noncomputable def L47_0 (K : Nat) : Lib := mkLib ti [] [] 47 []
theorem lib47_0 (K : Nat) : LibOk Tryz.prog (L47_0 K) := libOk_mk (ents := []) (bodies := []) (loops := []) order tiOk trivial trivial Tryz.func47 rfl lp47 ⟨no_lent, trivial⟩
abbrev i47_0 : Fs := [(.dat (.str), false), (.dat (.int Go.IntKind.i64), true), (.dat (.int Go.IntKind.i64), true)]
noncomputable def implb47_0 (K : Nat) (rc : ByteArray → Int → Int → Option (Int × Int × Unit)) (x1 : ByteArray) (x2 : Int) (x3 : Int) : Option (Int × Int × Unit) :=
  (bif decide (x3 < (↑x1.size : Int)) then (if (0 : Int) ≤ x3 ∧ x3 < (↑x1.size : Int) then (rc x1 ((IntKind.i64.wrap (IntKind.i64.wrap (IntKind.i64.wrap (x2 * (257 : Int)) + IntKind.i64.wrap (bt x1 x3)) + (1 : Int))).tmod (1000003 : Int)) (IntKind.i64.wrap (x3 + (1 : Int)))) else none) else some ((x2, x3, ())))
noncomputable def impll47_0 (K : Nat) : Nat → ByteArray → Int → Int → Option (Int × Int × Unit)
  | 0, _, _, _ => none
  | k + 1, x1, x2, x3 => implb47_0 K (impll47_0 K k) x1 x2 x3
noncomputable def n47_0 (K : Nat) : Lent := ⟨[1, 5, 6], i47_0, [11, 12, 13, 14, 17, 18, 19, 20, 21, 22, 23, 24, 25, 15, 16], [0], false, res47, fun x => impll47_0 K K x.1 x.2.1 x.2.2.1, [], none⟩
theorem q47_0 (K : Nat) (rc : ByteArray → Int → Int → Option (Int × Int × Unit)) (x1 : ByteArray) (x2 : Int) (x3 : Int) : evLoop (L47_0 K) 3 47 Tryz.f47.results.toList (loopOf 0 (codeOf Tryz.f47)) 0 [1, 5, 6] [] i47_0 [0] false res47 (fun x => rc x.1 x.2.1 x.2.2.1) (x1, x2, x3, ()) = implb47_0 K rc x1 x2 x3 := by kernel_rfl
theorem lp47_0 : loopsIn (loopOf 0 (codeOf Tryz.f47)) 0 = [] := by kernel_rfl
theorem n47_0_ok (K : Nat) : LentOk Tryz.prog Tryz.f47 (loopOf 0 (codeOf Tryz.f47)) (n47_0 K) := lentOk_k (slots := [1, 5, 6]) (ali := []) (ins := i47_0) (writes := [11, 12, 13, 14, 17, 18, 19, 20, 21, 22, 23, 24, 25, 15, 16]) (exits := [0]) (rets := false) (rs := res47) (d := 3) (lib47_0 K) lp47_0 trivial (by kernel_rfl) (by kernel_rfl) (by kernel_rfl) (by kernel_rfl) (by kernel_rfl) (fun k x => impll47_0 K k x.1 x.2.1 x.2.2.1) (fun _ => rfl) (fun k x => q47_0 K (impll47_0 K k) x.1 x.2.1 x.2.2.1) K
noncomputable def L47_1 (K : Nat) : Lib := mkLib ti [] [] 47 [(0, [n47_0 K])]
theorem lib47_1 (K : Nat) : LibOk Tryz.prog (L47_1 K) := libOk_mk (ents := []) (bodies := []) (loops := [(0, [n47_0 K])]) order tiOk trivial trivial Tryz.func47 rfl lp47 ⟨one_lent (n47_0_ok K), trivial⟩
noncomputable def implf47 (K : Nat) (x1 : Int) (x2 : ByteArray) : Option (Int) :=
  (ob (impll47_0 K K x2 ((IntKind.i64.wrap (x1.tmod (1000003 : Int) + (1000003 : Int))).tmod (1000003 : Int)) ((0 : Int))) fun y1 => some (y1.1))
theorem q47 (K : Nat) (x1 : Int) (x2 : ByteArray) : evFnK (α := Int) (L47_1 K) 3 47 Tryz.f47.results.toList (codeOf Tryz.f47) ins47 res47 (fun p => p.1) (x1, x2, ()) = implf47 K x1 x2 := by kernel_rfl
noncomputable def e47 (K : Nat) : Ent := ⟨ins47, res47, Int, fun x => implf47 K x.1 x.2.1, fun _ => (fun y => (y, (()))), false⟩
theorem e47_ok (K : Nat) : EntOk Tryz.prog 47 (e47 K) := entOk_k (ins := ins47) (rs := res47) (α := Int) (lib47_1 K) (d := 3) Tryz.func47 rfl (by kernel_rfl) (by kernel_rfl) (by kernel_rfl) (fun x => implf47 K x.1 x.2.1) (fun p => p.1) (fun y => (y, (()))) (fun _ => rfl) (fun x => q47 K x.1 x.2.1)

/-! (*diaphone/station.Station).Fog -/
abbrev ins60a : Fs := [(.box (.dat (.pr (.pr (.int .i32) (.int .u32)) (.pr (.sl (.int .i64)) (.pr (.sl (.int .i64)) (.pr (.pr (.sl (.arr 2 (.int .i64))) (.sl (.int .i64))) (.pr (.int .i64) (.pr (.bool) (.pr (.int .i64) (.pr (.int .i64) (.pr (.int .i64) (.pr (.int .i64) (.pr (.int .i64) (.pr (.int .i64) (.pr (.int .i64) (.pr (.int .i64) (.pr (.int .i64) (.pr (.int .i64) (.sl (.str))))))))))))))))))), false)]
abbrev res60a : Sh := .dat (.bool)
theorem lp60 : loopsIn (codeOf Tryz.f60) 0 = [] := by kernel_rfl
noncomputable def L60a_0 (K : Nat) : Lib := mkLib ti [(68, [e68a K, e68b K])] [] 60 []
theorem lib60a_0 (K : Nat) : LibOk Tryz.prog (L60a_0 K) := libOk_mk (ents := [(68, [e68a K, e68b K])]) (bodies := []) (loops := []) order tiOk ⟨more_ent (e68a_ok K) (one_ent (e68b_ok K)), trivial⟩ trivial Tryz.func60 rfl lp60 trivial
noncomputable def implf60a (K : Nat) (x1 : STN) : Option (Bool) :=
  (ob (implf68a K x1) fun y1 => some (y1.2.1))
theorem q60a (K : Nat) (x1 : STN) : evFnK (α := Bool) (L60a_0 K) 3 60 Tryz.f60.results.toList (codeOf Tryz.f60) ins60a res60a (fun p => p.1) (x1, ()) = implf60a K x1 := by kernel_rfl
noncomputable def e60a (K : Nat) : Ent := ⟨ins60a, res60a, Bool, fun x => implf60a K x.1, fun _ => (fun y => (y, (()))), false⟩
theorem e60a_ok (K : Nat) : EntOk Tryz.prog 60 (e60a K) := entOk_k (ins := ins60a) (rs := res60a) (α := Bool) (lib60a_0 K) (d := 3) Tryz.func60 rfl (by kernel_rfl) (by kernel_rfl) (by kernel_rfl) (fun x => implf60a K x.1) (fun p => p.1) (fun y => (y, (()))) (fun _ => rfl) (fun x => q60a K x.1)

abbrev ins60b : Fs := [(.dat .np, false)]
abbrev res60b : Sh := .dat (.bool)
noncomputable def L60b_0 (K : Nat) : Lib := mkLib ti [(68, [e68a K, e68b K])] [] 60 []
theorem lib60b_0 (K : Nat) : LibOk Tryz.prog (L60b_0 K) := libOk_mk (ents := [(68, [e68a K, e68b K])]) (bodies := []) (loops := []) order tiOk ⟨more_ent (e68a_ok K) (one_ent (e68b_ok K)), trivial⟩ trivial Tryz.func60 rfl lp60 trivial
noncomputable def implf60b (K : Nat) (x1 : Unit) : Option (Bool) :=
  (ob (implf68b K x1) fun y1 => some (y1.2.1))
theorem q60b (K : Nat) (x1 : Unit) : evFnK (α := Bool) (L60b_0 K) 3 60 Tryz.f60.results.toList (codeOf Tryz.f60) ins60b res60b (fun p => p.1) (x1, ()) = implf60b K x1 := by kernel_rfl
noncomputable def e60b (K : Nat) : Ent := ⟨ins60b, res60b, Bool, fun x => implf60b K x.1, fun _ => (fun y => (y, (()))), false⟩
theorem e60b_ok (K : Nat) : EntOk Tryz.prog 60 (e60b K) := entOk_k (ins := ins60b) (rs := res60b) (α := Bool) (lib60b_0 K) (d := 3) Tryz.func60 rfl (by kernel_rfl) (by kernel_rfl) (by kernel_rfl) (fun x => implf60b K x.1) (fun p => p.1) (fun y => (y, (()))) (fun _ => rfl) (fun x => q60b K x.1)

/-! diaphone/diaphoneref09.Right -/
abbrev ins84 : Fs := [(.dat (.str), false)]
abbrev res84 : Sh := .dat (.bool)
theorem lp84 : loopsIn (codeOf Tryz.f84) 0 = [(0, loopOf 0 (codeOf Tryz.f84))] := by kernel_rfl
noncomputable def L84_0 (K : Nat) : Lib := mkLib ti [] [] 84 []
theorem lib84_0 (K : Nat) : LibOk Tryz.prog (L84_0 K) := libOk_mk (ents := []) (bodies := []) (loops := []) order tiOk trivial trivial Tryz.func84 rfl lp84 ⟨no_lent, trivial⟩
abbrev i84_0 : Fs := [(.dat (.str), false), (.dat (.int Go.IntKind.i64), true)]
noncomputable def implb84_0 (K : Nat) (rc : ByteArray → Int → Option (Sum (Int × Unit) Bool)) (x1 : ByteArray) (x2 : Int) : Option (Sum (Int × Unit) Bool) :=
  (bif decide (x2 < (↑x1.size : Int)) then (if (0 : Int) ≤ x2 ∧ x2 < (↑x1.size : Int) then (bif bt x1 x2 == (10 : Int) then some (Sum.inr false) else (rc x1 (IntKind.i64.wrap (x2 + (1 : Int))))) else none) else some (Sum.inl (x2, ())))
noncomputable def impll84_0 (K : Nat) : Nat → ByteArray → Int → Option (Sum (Int × Unit) Bool)
  | 0, _, _ => none
  | k + 1, x1, x2 => implb84_0 K (impll84_0 K k) x1 x2
noncomputable def n84_0 (K : Nat) : Lent := ⟨[0, 3], i84_0, [4, 5, 6, 7, 10, 11, 12, 13, 2, 8, 9], [0], true, res84, fun x => impll84_0 K K x.1 x.2.1, [], none⟩
theorem q84_0 (K : Nat) (rc : ByteArray → Int → Option (Sum (Int × Unit) Bool)) (x1 : ByteArray) (x2 : Int) : evLoop (L84_0 K) 3 84 Tryz.f84.results.toList (loopOf 0 (codeOf Tryz.f84)) 0 [0, 3] [] i84_0 [0] true res84 (fun x => rc x.1 x.2.1) (x1, x2, ()) = implb84_0 K rc x1 x2 := by kernel_rfl
theorem lp84_0 : loopsIn (loopOf 0 (codeOf Tryz.f84)) 0 = [] := by kernel_rfl
theorem n84_0_ok (K : Nat) : LentOk Tryz.prog Tryz.f84 (loopOf 0 (codeOf Tryz.f84)) (n84_0 K) := lentOk_k (slots := [0, 3]) (ali := []) (ins := i84_0) (writes := [4, 5, 6, 7, 10, 11, 12, 13, 2, 8, 9]) (exits := [0]) (rets := true) (rs := res84) (d := 3) (lib84_0 K) lp84_0 trivial (by kernel_rfl) (by kernel_rfl) (by kernel_rfl) (by kernel_rfl) (by kernel_rfl) (fun k x => impll84_0 K k x.1 x.2.1) (fun _ => rfl) (fun k x => q84_0 K (impll84_0 K k) x.1 x.2.1) K
noncomputable def L84_1 (K : Nat) : Lib := mkLib ti [] [] 84 [(0, [n84_0 K])]
theorem lib84_1 (K : Nat) : LibOk Tryz.prog (L84_1 K) := libOk_mk (ents := []) (bodies := []) (loops := [(0, [n84_0 K])]) order tiOk trivial trivial Tryz.func84 rfl lp84 ⟨one_lent (n84_0_ok K), trivial⟩
noncomputable def implf84 (K : Nat) (x1 : ByteArray) : Option (Bool) :=
  (ob (impll84_0 K K x1 ((0 : Int))) fun y1 => (match y1 with | .inl y2 => (bif decide ((↑x1.size : Int) ≥ (1 : Int)) then some (decide ((↑x1.size : Int) ≤ (40 : Int))) else some (false)) | .inr y2 => some (y2)))
theorem q84 (K : Nat) (x1 : ByteArray) : evFnK (α := Bool) (L84_1 K) 3 84 Tryz.f84.results.toList (codeOf Tryz.f84) ins84 res84 (fun p => p.1) (x1, ()) = implf84 K x1 := by kernel_rfl
noncomputable def e84 (K : Nat) : Ent := ⟨ins84, res84, Bool, fun x => implf84 K x.1, fun _ => (fun y => (y, (()))), false⟩
theorem e84_ok (K : Nat) : EntOk Tryz.prog 84 (e84 K) := entOk_k (ins := ins84) (rs := res84) (α := Bool) (lib84_1 K) (d := 3) Tryz.func84 rfl (by kernel_rfl) (by kernel_rfl) (by kernel_rfl) (fun x => implf84 K x.1) (fun p => p.1) (fun y => (y, (()))) (fun _ => rfl) (fun x => q84 K x.1)

/-! diaphone/diaphoneref09.Read -/
abbrev ins44 : Fs := [(.dat (.str), false)]
abbrev res44 : Sh := .cons (.dat (.sl (.str))) (.cons (.dat (.str)) (.un))
theorem lp44 : loopsIn (codeOf Tryz.f44) 0 = [(0, loopOf 0 (codeOf Tryz.f44)), (2, loopOf 2 (codeOf Tryz.f44)), (4, loopOf 4 (codeOf Tryz.f44))] := by kernel_rfl
noncomputable def L44_0 (K : Nat) : Lib := mkLib ti [(47, [e47 K]), (84, [e84 K]), (85, [e85 K])] [] 44 []
theorem lib44_0 (K : Nat) : LibOk Tryz.prog (L44_0 K) := libOk_mk (ents := [(47, [e47 K]), (84, [e84 K]), (85, [e85 K])]) (bodies := []) (loops := []) order tiOk ⟨one_ent (e47_ok K), one_ent (e84_ok K), one_ent (e85_ok K), trivial⟩ trivial Tryz.func44 rfl lp44 ⟨no_lent, no_lent, no_lent, trivial⟩
abbrev i44_0 : Fs := [(.dat (.str), true), (.own (.str), true), (.dat (.int Go.IntKind.i64), true)]
abbrev i44_2 : Fs := [(.dat (.str), false), (.own (.str), false), (.dat (.int Go.IntKind.i64), false), (.dat (.int Go.IntKind.i64), false), (.dat (.int Go.IntKind.i64), true)]
noncomputable def implb44_2 (K : Nat) (rc : ByteArray → (List ByteArray) → Int → Int → Int → Option (Int × Unit)) (x1 : ByteArray) (x2 : (List ByteArray)) (x3 : Int) (x4 : Int) (x5 : Int) : Option (Int × Unit) :=
  (bif decide (x5 < (↑x1.size : Int)) then (if (0 : Int) ≤ x5 ∧ x5 < (↑x1.size : Int) then (bif bt x1 x5 != (10 : Int) then (rc x1 x2 x3 x4 (IntKind.i64.wrap (x5 + (1 : Int)))) else some ((x5, ()))) else none) else some ((x5, ())))
noncomputable def impll44_2 (K : Nat) : Nat → ByteArray → (List ByteArray) → Int → Int → Int → Option (Int × Unit)
  | 0, _, _, _, _, _ => none
  | k + 1, x1, x2, x3, x4, x5 => implb44_2 K (impll44_2 K k) x1 x2 x3 x4 x5
noncomputable def n44_2 (K : Nat) : Lent := ⟨[0, 4, 5, 6, 7], i44_2, [12, 13, 14, 15, 16, 17, 18, 19, 20, 21, 22, 23], [2], false, res44, fun x => impll44_2 K K x.1 x.2.1 x.2.2.1 x.2.2.2.1 x.2.2.2.2.1, [], none⟩
theorem q44_2 (K : Nat) (rc : ByteArray → (List ByteArray) → Int → Int → Int → Option (Int × Unit)) (x1 : ByteArray) (x2 : (List ByteArray)) (x3 : Int) (x4 : Int) (x5 : Int) : evLoop (L44_0 K) 3 44 Tryz.f44.results.toList (loopOf 2 (codeOf Tryz.f44)) 2 [0, 4, 5, 6, 7] [] i44_2 [2] false res44 (fun x => rc x.1 x.2.1 x.2.2.1 x.2.2.2.1 x.2.2.2.2.1) (x1, x2, x3, x4, x5, ()) = implb44_2 K rc x1 x2 x3 x4 x5 := by kernel_rfl
theorem lp44_2 : loopsIn (loopOf 2 (codeOf Tryz.f44)) 2 = [] := by kernel_rfl
theorem n44_2_ok (K : Nat) : LentOk Tryz.prog Tryz.f44 (loopOf 2 (codeOf Tryz.f44)) (n44_2 K) := lentOk_k (slots := [0, 4, 5, 6, 7]) (ali := []) (ins := i44_2) (writes := [12, 13, 14, 15, 16, 17, 18, 19, 20, 21, 22, 23]) (exits := [2]) (rets := false) (rs := res44) (d := 3) (lib44_0 K) lp44_2 trivial (by kernel_rfl) (by kernel_rfl) (by kernel_rfl) (by kernel_rfl) (by kernel_rfl) (fun k x => impll44_2 K k x.1 x.2.1 x.2.2.1 x.2.2.2.1 x.2.2.2.2.1) (fun _ => rfl) (fun k x => q44_2 K (impll44_2 K k) x.1 x.2.1 x.2.2.1 x.2.2.2.1 x.2.2.2.2.1) K
noncomputable def L44_1 (K : Nat) : Lib := mkLib ti [(47, [e47 K]), (84, [e84 K]), (85, [e85 K])] [] 44 [(2, [n44_2 K])]
theorem lib44_1 (K : Nat) : LibOk Tryz.prog (L44_1 K) := libOk_mk (ents := [(47, [e47 K]), (84, [e84 K]), (85, [e85 K])]) (bodies := []) (loops := [(2, [n44_2 K])]) order tiOk ⟨one_ent (e47_ok K), one_ent (e84_ok K), one_ent (e85_ok K), trivial⟩ trivial Tryz.func44 rfl lp44 ⟨no_lent, one_lent (n44_2_ok K), no_lent, trivial⟩
abbrev i44_4 : Fs := [(.dat (.str), false), (.own (.str), false), (.dat (.int Go.IntKind.i64), false), (.dat (.int Go.IntKind.i64), true), (.dat (.int Go.IntKind.i64), false)]
noncomputable def implb44_4 (K : Nat) (rc : ByteArray → (List ByteArray) → Int → Int → Int → Option (Int × Unit)) (x1 : ByteArray) (x2 : (List ByteArray)) (x3 : Int) (x4 : Int) (x5 : Int) : Option (Int × Unit) :=
  (bif decide (x4 < x5) then (if (0 : Int) ≤ x4 ∧ x4 < (↑x1.size : Int) then (bif bt x1 x4 != (32 : Int) then (rc x1 x2 x3 (IntKind.i64.wrap (x4 + (1 : Int))) x5) else some ((x4, ()))) else none) else some ((x4, ())))
noncomputable def impll44_4 (K : Nat) : Nat → ByteArray → (List ByteArray) → Int → Int → Int → Option (Int × Unit)
  | 0, _, _, _, _, _ => none
  | k + 1, x1, x2, x3, x4, x5 => implb44_4 K (impll44_4 K k) x1 x2 x3 x4 x5
noncomputable def n44_4 (K : Nat) : Lent := ⟨[0, 4, 5, 6, 7], i44_4, [24, 25, 26, 27, 28, 29, 30, 31, 32, 33, 34], [4], false, res44, fun x => impll44_4 K K x.1 x.2.1 x.2.2.1 x.2.2.2.1 x.2.2.2.2.1, [], none⟩
theorem q44_4 (K : Nat) (rc : ByteArray → (List ByteArray) → Int → Int → Int → Option (Int × Unit)) (x1 : ByteArray) (x2 : (List ByteArray)) (x3 : Int) (x4 : Int) (x5 : Int) : evLoop (L44_1 K) 3 44 Tryz.f44.results.toList (loopOf 4 (codeOf Tryz.f44)) 4 [0, 4, 5, 6, 7] [] i44_4 [4] false res44 (fun x => rc x.1 x.2.1 x.2.2.1 x.2.2.2.1 x.2.2.2.2.1) (x1, x2, x3, x4, x5, ()) = implb44_4 K rc x1 x2 x3 x4 x5 := by kernel_rfl
theorem lp44_4 : loopsIn (loopOf 4 (codeOf Tryz.f44)) 4 = [] := by kernel_rfl
theorem n44_4_ok (K : Nat) : LentOk Tryz.prog Tryz.f44 (loopOf 4 (codeOf Tryz.f44)) (n44_4 K) := lentOk_k (slots := [0, 4, 5, 6, 7]) (ali := []) (ins := i44_4) (writes := [24, 25, 26, 27, 28, 29, 30, 31, 32, 33, 34]) (exits := [4]) (rets := false) (rs := res44) (d := 3) (lib44_1 K) lp44_4 trivial (by kernel_rfl) (by kernel_rfl) (by kernel_rfl) (by kernel_rfl) (by kernel_rfl) (fun k x => impll44_4 K k x.1 x.2.1 x.2.2.1 x.2.2.2.1 x.2.2.2.2.1) (fun _ => rfl) (fun k x => q44_4 K (impll44_4 K k) x.1 x.2.1 x.2.2.1 x.2.2.2.1 x.2.2.2.2.1) K
noncomputable def L44_2 (K : Nat) : Lib := mkLib ti [(47, [e47 K]), (84, [e84 K]), (85, [e85 K])] [] 44 [(2, [n44_2 K]), (4, [n44_4 K])]
theorem lib44_2 (K : Nat) : LibOk Tryz.prog (L44_2 K) := libOk_mk (ents := [(47, [e47 K]), (84, [e84 K]), (85, [e85 K])]) (bodies := []) (loops := [(2, [n44_2 K]), (4, [n44_4 K])]) order tiOk ⟨one_ent (e47_ok K), one_ent (e84_ok K), one_ent (e85_ok K), trivial⟩ trivial Tryz.func44 rfl lp44 ⟨no_lent, one_lent (n44_2_ok K), one_lent (n44_4_ok K), trivial⟩
noncomputable def implb44_0 (K : Nat) (rc : ByteArray → (List ByteArray) → Int → Option (ByteArray × (List ByteArray) × Int × Unit)) (x1 : ByteArray) (x2 : (List ByteArray)) (x3 : Int) : Option (ByteArray × (List ByteArray) × Int × Unit) :=
  (bif decide ((↑x2.length : Int) < (100 : Int)) then (ob (impll44_2 K K x1 x2 x3 ((0 : Int)) ((0 : Int))) fun y1 => (ob (impll44_4 K K x1 x2 x3 ((0 : Int)) y1.1) fun y2 => (bif y1.1 == (↑x1.size : Int) then some ((x1, x2, x3, ())) else (bif y2.1 == y1.1 then some ((x1, x2, x3, ())) else (if (0 : Int) ≤ IntKind.i64.wrap (y2.1 + (1 : Int)) ∧ IntKind.i64.wrap (y2.1 + (1 : Int)) ≤ y1.1 ∧ y1.1 ≤ (↑x1.size : Int) then (ob (implf84 K (x1.extract (IntKind.i64.wrap (y2.1 + (1 : Int))).toNat y1.1.toNat)) fun y3 => (bif !y3 then some ((x1, x2, x3, ())) else (if (0 : Int) ≤ IntKind.i64.wrap (y2.1 + (1 : Int)) ∧ IntKind.i64.wrap (y2.1 + (1 : Int)) ≤ y1.1 ∧ y1.1 ≤ (↑x1.size : Int) then (ob (implf47 K x3 (x1.extract (IntKind.i64.wrap (y2.1 + (1 : Int))).toNat y1.1.toNat)) fun y4 => (ob (implf85 K y4) fun y5 => (if (0 : Int) ≤ (0 : Int) ∧ (0 : Int) ≤ y2.1 ∧ y2.1 ≤ (↑x1.size : Int) then (bif !y5.toList == (x1.extract (0) y2.1.toNat).toList then some ((x1, x2, x3, ())) else (ob (implf47 K x3 (x1.extract (IntKind.i64.wrap (y2.1 + (1 : Int))).toNat y1.1.toNat)) fun y6 => (if (x2.length + ((List.replicate 1 ByteArray.empty).set 0 (x1.extract (IntKind.i64.wrap (y2.1 + (1 : Int))).toNat y1.1.toNat)).length) * 16 ≤ 140737488355328 then (if (0 : Int) ≤ IntKind.i64.wrap (y1.1 + (1 : Int)) ∧ IntKind.i64.wrap (y1.1 + (1 : Int)) ≤ (↑x1.size : Int) ∧ (↑x1.size : Int) ≤ (↑x1.size : Int) then (rc (x1.extract (IntKind.i64.wrap (y1.1 + (1 : Int))).toNat (↑x1.size : Int).toNat) (x2 ++ (List.replicate 1 ByteArray.empty).set 0 (x1.extract (IntKind.i64.wrap (y2.1 + (1 : Int))).toNat y1.1.toNat)) y6) else none) else none))) else none))) else none))) else none))))) else some ((x1, x2, x3, ())))
noncomputable def impll44_0 (K : Nat) : Nat → ByteArray → (List ByteArray) → Int → Option (ByteArray × (List ByteArray) × Int × Unit)
  | 0, _, _, _ => none
  | k + 1, x1, x2, x3 => implb44_0 K (impll44_0 K k) x1 x2 x3
noncomputable def n44_0 (K : Nat) : Lent := ⟨[0, 4, 5], i44_0, [9, 10, 11, 6, 7, 12, 13, 14, 15, 16, 17, 18, 19, 20, 21, 22, 23, 24, 25, 26, 27, 28, 29, 30, 31, 32, 33, 34, 35, 36, 37, 38, 39, 40, 41, 42, 43, 44, 45, 46, 47, 48, 49, 50, 51, 52, 53, 54, 55, 56, 57, 8, 58, 59, 60, 61, 62, 63, 64, 65, 66, 67, 68, 69, 70, 71, 72, 73, 74, 75, 76], [0], false, res44, fun x => impll44_0 K K x.1 x.2.1 x.2.2.1, [], none⟩
theorem q44_0 (K : Nat) (rc : ByteArray → (List ByteArray) → Int → Option (ByteArray × (List ByteArray) × Int × Unit)) (x1 : ByteArray) (x2 : (List ByteArray)) (x3 : Int) : evLoop (L44_2 K) 3 44 Tryz.f44.results.toList (loopOf 0 (codeOf Tryz.f44)) 0 [0, 4, 5] [] i44_0 [0] false res44 (fun x => rc x.1 x.2.1 x.2.2.1) (x1, x2, x3, ()) = implb44_0 K rc x1 x2 x3 := by kernel_rfl
theorem lp44_0 : loopsIn (loopOf 0 (codeOf Tryz.f44)) 0 = [(2, loopOf 2 (codeOf Tryz.f44)), (4, loopOf 4 (codeOf Tryz.f44))] := by kernel_rfl
theorem n44_0_ok (K : Nat) : LentOk Tryz.prog Tryz.f44 (loopOf 0 (codeOf Tryz.f44)) (n44_0 K) := lentOk_k (slots := [0, 4, 5]) (ali := []) (ins := i44_0) (writes := [9, 10, 11, 6, 7, 12, 13, 14, 15, 16, 17, 18, 19, 20, 21, 22, 23, 24, 25, 26, 27, 28, 29, 30, 31, 32, 33, 34, 35, 36, 37, 38, 39, 40, 41, 42, 43, 44, 45, 46, 47, 48, 49, 50, 51, 52, 53, 54, 55, 56, 57, 8, 58, 59, 60, 61, 62, 63, 64, 65, 66, 67, 68, 69, 70, 71, 72, 73, 74, 75, 76]) (exits := [0]) (rets := false) (rs := res44) (d := 3) (lib44_2 K) lp44_0 ⟨one_lent (n44_2_ok K), one_lent (n44_4_ok K), trivial⟩ (by kernel_rfl) (by kernel_rfl) (by kernel_rfl) (by kernel_rfl) (by kernel_rfl) (fun k x => impll44_0 K k x.1 x.2.1 x.2.2.1) (fun _ => rfl) (fun k x => q44_0 K (impll44_0 K k) x.1 x.2.1 x.2.2.1) K
noncomputable def L44_3 (K : Nat) : Lib := mkLib ti [(47, [e47 K]), (84, [e84 K]), (85, [e85 K])] [] 44 [(2, [n44_2 K]), (4, [n44_4 K]), (0, [n44_0 K])]
theorem lib44_3 (K : Nat) : LibOk Tryz.prog (L44_3 K) := libOk_mk (ents := [(47, [e47 K]), (84, [e84 K]), (85, [e85 K])]) (bodies := []) (loops := [(2, [n44_2 K]), (4, [n44_4 K]), (0, [n44_0 K])]) order tiOk ⟨one_ent (e47_ok K), one_ent (e84_ok K), one_ent (e85_ok K), trivial⟩ trivial Tryz.func44 rfl lp44 ⟨one_lent (n44_0_ok K), one_lent (n44_2_ok K), one_lent (n44_4_ok K), trivial⟩
noncomputable def implf44 (K : Nat) (x1 : ByteArray) : Option ((List ByteArray) × ByteArray) :=
  (ob (impll44_0 K K x1 [] ((0 : Int))) fun y1 => some ((y1.2.1, y1.1)))
theorem q44 (K : Nat) (x1 : ByteArray) : evFnK (α := (List ByteArray) × ByteArray) (L44_3 K) 3 44 Tryz.f44.results.toList (codeOf Tryz.f44) ins44 res44 (fun p => (p.1.1, p.1.2.1)) (x1, ()) = implf44 K x1 := by kernel_rfl
noncomputable def e44 (K : Nat) : Ent := ⟨ins44, res44, (List ByteArray) × ByteArray, fun x => implf44 K x.1, fun _ => (fun y => ((y.1, y.2, ()), (()))), false⟩
theorem e44_ok (K : Nat) : EntOk Tryz.prog 44 (e44 K) := entOk_k (ins := ins44) (rs := res44) (α := (List ByteArray) × ByteArray) (lib44_3 K) (d := 3) Tryz.func44 rfl (by kernel_rfl) (by kernel_rfl) (by kernel_rfl) (fun x => implf44 K x.1) (fun p => (p.1.1, p.1.2.1)) (fun y => ((y.1, y.2, ()), (()))) (fun _ => rfl) (fun x => q44 K x.1)

/-! diaphone/diaphoneref09.SameTexts -/
abbrev ins45 : Fs := [(.dat (.sl (.str)), false), (.dat (.sl (.str)), false)]
abbrev res45 : Sh := .dat (.bool)
theorem lp45 : loopsIn (codeOf Tryz.f45) 0 = [(0, loopOf 0 (codeOf Tryz.f45))] := by kernel_rfl
noncomputable def L45_0 (K : Nat) : Lib := mkLib ti [] [] 45 []
theorem lib45_0 (K : Nat) : LibOk Tryz.prog (L45_0 K) := libOk_mk (ents := []) (bodies := []) (loops := []) order tiOk trivial trivial Tryz.func45 rfl lp45 ⟨no_lent, trivial⟩
abbrev i45_0 : Fs := [(.dat (.sl (.str)), false), (.dat (.sl (.str)), false), (.dat (.int Go.IntKind.i64), true)]
noncomputable def implb45_0 (K : Nat) (rc : (List ByteArray) → (List ByteArray) → Int → Option (Sum (Int × Unit) Bool)) (x1 : (List ByteArray)) (x2 : (List ByteArray)) (x3 : Int) : Option (Sum (Int × Unit) Bool) :=
  (bif decide (x3 < (↑x1.length : Int)) then (if (0 : Int) ≤ x3 ∧ x3 < (↑x1.length : Int) then (if (0 : Int) ≤ x3 ∧ x3 < (↑x2.length : Int) then (bif !(x1.getD x3.toNat ByteArray.empty).toList == (x2.getD x3.toNat ByteArray.empty).toList then some (Sum.inr false) else (rc x1 x2 (IntKind.i64.wrap (x3 + (1 : Int))))) else none) else none) else some (Sum.inl (x3, ())))
noncomputable def impll45_0 (K : Nat) : Nat → (List ByteArray) → (List ByteArray) → Int → Option (Sum (Int × Unit) Bool)
  | 0, _, _, _ => none
  | k + 1, x1, x2, x3 => implb45_0 K (impll45_0 K k) x1 x2 x3
noncomputable def n45_0 (K : Nat) : Lent := ⟨[0, 1, 5], i45_0, [11, 12, 13, 14, 17, 18, 19, 20, 21, 22, 23, 24, 25, 4, 15, 16], [0], true, res45, fun x => impll45_0 K K x.1 x.2.1 x.2.2.1, [], none⟩
theorem q45_0 (K : Nat) (rc : (List ByteArray) → (List ByteArray) → Int → Option (Sum (Int × Unit) Bool)) (x1 : (List ByteArray)) (x2 : (List ByteArray)) (x3 : Int) : evLoop (L45_0 K) 3 45 Tryz.f45.results.toList (loopOf 0 (codeOf Tryz.f45)) 0 [0, 1, 5] [] i45_0 [0] true res45 (fun x => rc x.1 x.2.1 x.2.2.1) (x1, x2, x3, ()) = implb45_0 K rc x1 x2 x3 := by kernel_rfl
theorem lp45_0 : loopsIn (loopOf 0 (codeOf Tryz.f45)) 0 = [] := by kernel_rfl
theorem n45_0_ok (K : Nat) : LentOk Tryz.prog Tryz.f45 (loopOf 0 (codeOf Tryz.f45)) (n45_0 K) := lentOk_k (slots := [0, 1, 5]) (ali := []) (ins := i45_0) (writes := [11, 12, 13, 14, 17, 18, 19, 20, 21, 22, 23, 24, 25, 4, 15, 16]) (exits := [0]) (rets := true) (rs := res45) (d := 3) (lib45_0 K) lp45_0 trivial (by kernel_rfl) (by kernel_rfl) (by kernel_rfl) (by kernel_rfl) (by kernel_rfl) (fun k x => impll45_0 K k x.1 x.2.1 x.2.2.1) (fun _ => rfl) (fun k x => q45_0 K (impll45_0 K k) x.1 x.2.1 x.2.2.1) K
noncomputable def L45_1 (K : Nat) : Lib := mkLib ti [] [] 45 [(0, [n45_0 K])]
theorem lib45_1 (K : Nat) : LibOk Tryz.prog (L45_1 K) := libOk_mk (ents := []) (bodies := []) (loops := [(0, [n45_0 K])]) order tiOk trivial trivial Tryz.func45 rfl lp45 ⟨one_lent (n45_0_ok K), trivial⟩
noncomputable def implf45 (K : Nat) (x1 : (List ByteArray)) (x2 : (List ByteArray)) : Option (Bool) :=
  (bif (↑x1.length : Int) != (↑x2.length : Int) then some (false) else (ob (impll45_0 K K x1 x2 ((0 : Int))) fun y1 => (match y1 with | .inl y2 => some (true) | .inr y2 => some (y2))))
theorem q45 (K : Nat) (x1 : (List ByteArray)) (x2 : (List ByteArray)) : evFnK (α := Bool) (L45_1 K) 3 45 Tryz.f45.results.toList (codeOf Tryz.f45) ins45 res45 (fun p => p.1) (x1, x2, ()) = implf45 K x1 x2 := by kernel_rfl
noncomputable def e45 (K : Nat) : Ent := ⟨ins45, res45, Bool, fun x => implf45 K x.1 x.2.1, fun _ => (fun y => (y, (()))), false⟩
theorem e45_ok (K : Nat) : EntOk Tryz.prog 45 (e45 K) := entOk_k (ins := ins45) (rs := res45) (α := Bool) (lib45_1 K) (d := 3) Tryz.func45 rfl (by kernel_rfl) (by kernel_rfl) (by kernel_rfl) (fun x => implf45 K x.1 x.2.1) (fun p => p.1) (fun y => (y, (()))) (fun _ => rfl) (fun x => q45 K x.1 x.2.1)

/-! slices.Equal[[]string,string] -/
abbrev ins117 : Fs := [(.dat (.sl (.str)), false), (.dat (.sl (.str)), false)]
abbrev res117 : Sh := .dat (.bool)
theorem lp117 : loopsIn (codeOf Tryz.f117) 0 = [(0, loopOf 0 (codeOf Tryz.f117))] := by kernel_rfl
noncomputable def L117_0 (K : Nat) : Lib := mkLib ti [] [] 117 []
theorem lib117_0 (K : Nat) : LibOk Tryz.prog (L117_0 K) := libOk_mk (ents := []) (bodies := []) (loops := []) order tiOk trivial trivial Tryz.func117 rfl lp117 ⟨no_lent, trivial⟩
abbrev i117_0 : Fs := [(.dat (.sl (.str)), false), (.dat (.sl (.str)), false), (.dat (.int Go.IntKind.i64), false), (.dat (.int Go.IntKind.i64), true)]
noncomputable def implb117_0 (K : Nat) (rc : (List ByteArray) → (List ByteArray) → Int → Int → Option (Sum (Int × Unit) Bool)) (x1 : (List ByteArray)) (x2 : (List ByteArray)) (x3 : Int) (x4 : Int) : Option (Sum (Int × Unit) Bool) :=
  (bif decide (x4 < x3) then (if (0 : Int) ≤ x4 ∧ x4 < (↑x1.length : Int) then (if (0 : Int) ≤ x4 ∧ x4 < (↑x2.length : Int) then (bif !(x1.getD x4.toNat ByteArray.empty).toList == (x2.getD x4.toNat ByteArray.empty).toList then some (Sum.inr false) else (rc x1 x2 x3 (IntKind.i64.wrap (x4 + (1 : Int))))) else none) else none) else some (Sum.inl (x4, ())))
noncomputable def impll117_0 (K : Nat) : Nat → (List ByteArray) → (List ByteArray) → Int → Int → Option (Sum (Int × Unit) Bool)
  | 0, _, _, _, _ => none
  | k + 1, x1, x2, x3, x4 => implb117_0 K (impll117_0 K k) x1 x2 x3 x4
noncomputable def n117_0 (K : Nat) : Lent := ⟨[0, 1, 12, 13], i117_0, [14, 15, 5, 16, 17, 18, 19, 20, 21, 22, 23, 24, 4, 25], [0], true, res117, fun x => impll117_0 K K x.1 x.2.1 x.2.2.1 x.2.2.2.1, [], none⟩
theorem q117_0 (K : Nat) (rc : (List ByteArray) → (List ByteArray) → Int → Int → Option (Sum (Int × Unit) Bool)) (x1 : (List ByteArray)) (x2 : (List ByteArray)) (x3 : Int) (x4 : Int) : evLoop (L117_0 K) 3 117 Tryz.f117.results.toList (loopOf 0 (codeOf Tryz.f117)) 0 [0, 1, 12, 13] [] i117_0 [0] true res117 (fun x => rc x.1 x.2.1 x.2.2.1 x.2.2.2.1) (x1, x2, x3, x4, ()) = implb117_0 K rc x1 x2 x3 x4 := by kernel_rfl
theorem lp117_0 : loopsIn (loopOf 0 (codeOf Tryz.f117)) 0 = [] := by kernel_rfl
theorem n117_0_ok (K : Nat) : LentOk Tryz.prog Tryz.f117 (loopOf 0 (codeOf Tryz.f117)) (n117_0 K) := lentOk_k (slots := [0, 1, 12, 13]) (ali := []) (ins := i117_0) (writes := [14, 15, 5, 16, 17, 18, 19, 20, 21, 22, 23, 24, 4, 25]) (exits := [0]) (rets := true) (rs := res117) (d := 3) (lib117_0 K) lp117_0 trivial (by kernel_rfl) (by kernel_rfl) (by kernel_rfl) (by kernel_rfl) (by kernel_rfl) (fun k x => impll117_0 K k x.1 x.2.1 x.2.2.1 x.2.2.2.1) (fun _ => rfl) (fun k x => q117_0 K (impll117_0 K k) x.1 x.2.1 x.2.2.1 x.2.2.2.1) K
noncomputable def L117_1 (K : Nat) : Lib := mkLib ti [] [] 117 [(0, [n117_0 K])]
theorem lib117_1 (K : Nat) : LibOk Tryz.prog (L117_1 K) := libOk_mk (ents := []) (bodies := []) (loops := [(0, [n117_0 K])]) order tiOk trivial trivial Tryz.func117 rfl lp117 ⟨one_lent (n117_0_ok K), trivial⟩
noncomputable def implf117 (K : Nat) (x1 : (List ByteArray)) (x2 : (List ByteArray)) : Option (Bool) :=
  (bif (↑x1.length : Int) != (↑x2.length : Int) then some (false) else (ob (impll117_0 K K x1 x2 ((↑x1.length : Int)) ((0 : Int))) fun y1 => (match y1 with | .inl y2 => some (true) | .inr y2 => some (y2))))
theorem q117 (K : Nat) (x1 : (List ByteArray)) (x2 : (List ByteArray)) : evFnK (α := Bool) (L117_1 K) 3 117 Tryz.f117.results.toList (codeOf Tryz.f117) ins117 res117 (fun p => p.1) (x1, x2, ()) = implf117 K x1 x2 := by kernel_rfl
noncomputable def e117 (K : Nat) : Ent := ⟨ins117, res117, Bool, fun x => implf117 K x.1 x.2.1, fun _ => (fun y => (y, (()))), false⟩
theorem e117_ok (K : Nat) : EntOk Tryz.prog 117 (e117 K) := entOk_k (ins := ins117) (rs := res117) (α := Bool) (lib117_1 K) (d := 3) Tryz.func117 rfl (by kernel_rfl) (by kernel_rfl) (by kernel_rfl) (fun x => implf117 K x.1 x.2.1) (fun p => p.1) (fun y => (y, (()))) (fun _ => rfl) (fun x => q117 K x.1 x.2.1)

/-! diaphone/station.same -/
abbrev ins91 : Fs := [(.dat (.pr (.int .i64) (.pr (.bool) (.pr (.int .i64) (.pr (.int .i64) (.pr (.int .i64) (.pr (.int .i64) (.pr (.int .i64) (.pr (.int .i64) (.pr (.int .i64) (.pr (.int .i64) (.pr (.int .i64) (.pr (.int .i64) (.sl (.str)))))))))))))), false), (.dat (.pr (.int .i64) (.pr (.bool) (.pr (.int .i64) (.pr (.int .i64) (.pr (.int .i64) (.pr (.int .i64) (.pr (.int .i64) (.pr (.int .i64) (.pr (.int .i64) (.pr (.int .i64) (.pr (.int .i64) (.pr (.int .i64) (.sl (.str)))))))))))))), false)]
abbrev res91 : Sh := .dat (.bool)
theorem lp91 : loopsIn (codeOf Tryz.f91) 0 = [] := by kernel_rfl
noncomputable def L91_0 (K : Nat) : Lib := mkLib ti [(117, [e117 K])] [] 91 []
theorem lib91_0 (K : Nat) : LibOk Tryz.prog (L91_0 K) := libOk_mk (ents := [(117, [e117 K])]) (bodies := []) (loops := []) order tiOk ⟨one_ent (e117_ok K), trivial⟩ trivial Tryz.func91 rfl lp91 trivial
noncomputable def implf91 (K : Nat) (x1 : (Int × (Bool × (Int × (Int × (Int × (Int × (Int × (Int × (Int × (Int × (Int × (Int × (List ByteArray)))))))))))))) (x2 : (Int × (Bool × (Int × (Int × (Int × (Int × (Int × (Int × (Int × (Int × (Int × (Int × (List ByteArray)))))))))))))) : Option (Bool) :=
  (ob (implf117 K x1.2.2.2.2.2.2.2.2.2.2.2.2 x2.2.2.2.2.2.2.2.2.2.2.2.2) fun y1 => (bif y1 then (bif x1.1 == x2.1 then (bif x1.2.1 == x2.2.1 then (bif x1.2.2.1 == x2.2.2.1 then (bif x1.2.2.2.1 == x2.2.2.2.1 then (bif x1.2.2.2.2.1 == x2.2.2.2.2.1 then (bif x1.2.2.2.2.2.1 == x2.2.2.2.2.2.1 then (bif x1.2.2.2.2.2.2.1 == x2.2.2.2.2.2.2.1 then (bif x1.2.2.2.2.2.2.2.1 == x2.2.2.2.2.2.2.2.1 then (bif x1.2.2.2.2.2.2.2.2.1 == x2.2.2.2.2.2.2.2.2.1 then (bif x1.2.2.2.2.2.2.2.2.2.1 == x2.2.2.2.2.2.2.2.2.2.1 then (bif x1.2.2.2.2.2.2.2.2.2.2.1 == x2.2.2.2.2.2.2.2.2.2.2.1 then some (x1.2.2.2.2.2.2.2.2.2.2.2.1 == x2.2.2.2.2.2.2.2.2.2.2.2.1) else some (false)) else some (false)) else some (false)) else some (false)) else some (false)) else some (false)) else some (false)) else some (false)) else some (false)) else some (false)) else some (false)) else some (false)))
theorem q91 (K : Nat) (x1 : (Int × (Bool × (Int × (Int × (Int × (Int × (Int × (Int × (Int × (Int × (Int × (Int × (List ByteArray)))))))))))))) (x2 : (Int × (Bool × (Int × (Int × (Int × (Int × (Int × (Int × (Int × (Int × (Int × (Int × (List ByteArray)))))))))))))) : evFnK (α := Bool) (L91_0 K) 3 91 Tryz.f91.results.toList (codeOf Tryz.f91) ins91 res91 (fun p => p.1) (x1, x2, ()) = implf91 K x1 x2 := by kernel_rfl
noncomputable def e91 (K : Nat) : Ent := ⟨ins91, res91, Bool, fun x => implf91 K x.1 x.2.1, fun _ => (fun y => (y, (()))), false⟩
theorem e91_ok (K : Nat) : EntOk Tryz.prog 91 (e91 K) := entOk_k (ins := ins91) (rs := res91) (α := Bool) (lib91_0 K) (d := 3) Tryz.func91 rfl (by kernel_rfl) (by kernel_rfl) (by kernel_rfl) (fun x => implf91 K x.1 x.2.1) (fun p => p.1) (fun y => (y, (()))) (fun _ => rfl) (fun x => q91 K x.1 x.2.1)

/-! (*diaphone/station.Station).Audit -/
abbrev ins55a : Fs := [(.box (.dat (.pr (.pr (.int .i32) (.int .u32)) (.pr (.sl (.int .i64)) (.pr (.sl (.int .i64)) (.pr (.pr (.sl (.arr 2 (.int .i64))) (.sl (.int .i64))) (.pr (.int .i64) (.pr (.bool) (.pr (.int .i64) (.pr (.int .i64) (.pr (.int .i64) (.pr (.int .i64) (.pr (.int .i64) (.pr (.int .i64) (.pr (.int .i64) (.pr (.int .i64) (.pr (.int .i64) (.pr (.int .i64) (.sl (.str))))))))))))))))))), false)]
abbrev res55a : Sh := .dat (.bool)
theorem lp55 : loopsIn (codeOf Tryz.f55) 0 = [] := by kernel_rfl
noncomputable def L55a_0 (K : Nat) : Lib := mkLibR ti [(24, [e24a K, e24b K]), (67, [e67 K]), (68, [e68a K, e68b K]), (90, [e90 K]), (91, [e91 K])] [] 55 [] [] [] [] [24]
theorem lib55a_0 (K : Nat) : LibOk Tryz.prog (L55a_0 K) := libOk_mkR (ents := [(24, [e24a K, e24b K]), (67, [e67 K]), (68, [e68a K, e68b K]), (90, [e90 K]), (91, [e91 K])]) (bodies := []) (loops := []) order tiOk ⟨more_ent (e24a_ok K) (one_ent (e24b_ok K)), one_ent (e67_ok K), more_ent (e68a_ok K) (one_ent (e68b_ok K)), one_ent (e90_ok K), one_ent (e91_ok K), trivial⟩ trivial Tryz.func55 rfl lp55 trivial (rngs := []) trivial (frz := []) (opts := []) trivial
noncomputable def implf55a (K : Nat) (x1 : STN) : Option (Bool) :=
  (ob (implf68a K x1) fun y1 => (ob (implf90 K x1) fun y2 => (bif y1.2.2.2.2.2.2.2.2.2.2.1 != IntKind.i64.wrap (y1.2.2.2.1 + IntKind.i64.wrap (y1.2.2.2.2.2.2.1 * y2)) then some (false) else (bif y1.2.2.2.2.2.2.2.2.2.2.2.1 != IntKind.i64.wrap (y1.2.2.2.2.1 + y1.2.2.2.2.2.2.2.2.2.1) then some (false) else (bif decide (y1.2.2.2.2.2.1 > y1.1) then some (false) else (bif decide (IntKind.i64.wrap (y1.2.2.2.2.2.2.1 + y1.2.2.2.2.2.2.2.1) > y1.1) then some (false) else (ob (implf67 K y1.2.2.2.2.2.2.2.2.2.2.2.2) fun y3 => (oel (implf24a K x1.2.1 x1.2.2.1 x1.2.2.2.1 y3) (ob (implf24b K x1.2.1 x1.2.2.1 x1.2.2.2.1 y3) fun y4 => (bif y4.2.2 == (0 : Int) then (ob (implf91 K y4.1.2.2.2.2 y1) fun y5 => some (y5)) else some (false))) fun y6 => (bif y6.2.2 == (0 : Int) then none else some (false))))))))))
theorem q55a (K : Nat) (x1 : STN) : evFnK (α := Bool) (L55a_0 K) 3 55 Tryz.f55.results.toList (codeOf Tryz.f55) ins55a res55a (fun p => p.1) (x1, ()) = implf55a K x1 := by kernel_rfl
noncomputable def e55a (K : Nat) : Ent := ⟨ins55a, res55a, Bool, fun x => implf55a K x.1, fun _ => (fun y => (y, (()))), false⟩
theorem e55a_ok (K : Nat) : EntOk Tryz.prog 55 (e55a K) := entOk_k (ins := ins55a) (rs := res55a) (α := Bool) (lib55a_0 K) (d := 3) Tryz.func55 rfl (by kernel_rfl) (by kernel_rfl) (by kernel_rfl) (fun x => implf55a K x.1) (fun p => p.1) (fun y => (y, (()))) (fun _ => rfl) (fun x => q55a K x.1)

abbrev ins55b : Fs := [(.dat .np, false)]
abbrev res55b : Sh := .dat (.bool)
noncomputable def L55b_0 (K : Nat) : Lib := mkLibR ti [(24, [e24a K, e24b K]), (67, [e67 K]), (68, [e68a K, e68b K]), (90, [e90 K]), (91, [e91 K])] [] 55 [] [] [] [] [24]
theorem lib55b_0 (K : Nat) : LibOk Tryz.prog (L55b_0 K) := libOk_mkR (ents := [(24, [e24a K, e24b K]), (67, [e67 K]), (68, [e68a K, e68b K]), (90, [e90 K]), (91, [e91 K])]) (bodies := []) (loops := []) order tiOk ⟨more_ent (e24a_ok K) (one_ent (e24b_ok K)), one_ent (e67_ok K), more_ent (e68a_ok K) (one_ent (e68b_ok K)), one_ent (e90_ok K), one_ent (e91_ok K), trivial⟩ trivial Tryz.func55 rfl lp55 trivial (rngs := []) trivial (frz := []) (opts := []) trivial
noncomputable def implf55b (K : Nat) (x1 : Unit) : Option (Bool) :=
  some (false)
theorem q55b (K : Nat) (x1 : Unit) : evFnK (α := Bool) (L55b_0 K) 3 55 Tryz.f55.results.toList (codeOf Tryz.f55) ins55b res55b (fun p => p.1) (x1, ()) = implf55b K x1 := by kernel_rfl
noncomputable def e55b (K : Nat) : Ent := ⟨ins55b, res55b, Bool, fun x => implf55b K x.1, fun _ => (fun y => (y, (()))), false⟩
theorem e55b_ok (K : Nat) : EntOk Tryz.prog 55 (e55b K) := entOk_k (ins := ins55b) (rs := res55b) (α := Bool) (lib55b_0 K) (d := 3) Tryz.func55 rfl (by kernel_rfl) (by kernel_rfl) (by kernel_rfl) (fun x => implf55b K x.1) (fun p => p.1) (fun y => (y, (()))) (fun _ => rfl) (fun x => q55b K x.1)

/-! diaphone/diaphonetop.sameStation -/
abbrev ins63 : Fs := [(.box (.dat (.pr (.pr (.int .i32) (.int .u32)) (.pr (.sl (.int .i64)) (.pr (.sl (.int .i64)) (.pr (.pr (.sl (.arr 2 (.int .i64))) (.sl (.int .i64))) (.pr (.int .i64) (.pr (.bool) (.pr (.int .i64) (.pr (.int .i64) (.pr (.int .i64) (.pr (.int .i64) (.pr (.int .i64) (.pr (.int .i64) (.pr (.int .i64) (.pr (.int .i64) (.pr (.int .i64) (.pr (.int .i64) (.sl (.str))))))))))))))))))), false), (.box (.dat (.pr (.pr (.int .i32) (.int .u32)) (.pr (.sl (.int .i64)) (.pr (.sl (.int .i64)) (.pr (.pr (.sl (.arr 2 (.int .i64))) (.sl (.int .i64))) (.pr (.int .i64) (.pr (.bool) (.pr (.int .i64) (.pr (.int .i64) (.pr (.int .i64) (.pr (.int .i64) (.pr (.int .i64) (.pr (.int .i64) (.pr (.int .i64) (.pr (.int .i64) (.pr (.int .i64) (.pr (.int .i64) (.sl (.str))))))))))))))))))), false)]
abbrev res63 : Sh := .dat (.bool)
theorem lp63 : loopsIn (codeOf Tryz.f63) 0 = [] := by kernel_rfl
noncomputable def L63_0 (K : Nat) : Lib := mkLib ti [(21, [e21a K, e21b K]), (33, [e33a K, e33b K]), (34, [e34a K, e34b K]), (37, [e37a K, e37b K]), (38, [e38a K, e38b K]), (56, [e56a K, e56b K]), (57, [e57a K, e57b K]), (58, [e58a K, e58b K]), (59, [e59a K, e59b K]), (60, [e60a K, e60b K])] [] 63 []
theorem lib63_0 (K : Nat) : LibOk Tryz.prog (L63_0 K) := libOk_mk (ents := [(21, [e21a K, e21b K]), (33, [e33a K, e33b K]), (34, [e34a K, e34b K]), (37, [e37a K, e37b K]), (38, [e38a K, e38b K]), (56, [e56a K, e56b K]), (57, [e57a K, e57b K]), (58, [e58a K, e58b K]), (59, [e59a K, e59b K]), (60, [e60a K, e60b K])]) (bodies := []) (loops := []) order tiOk ⟨more_ent (e21a_ok K) (one_ent (e21b_ok K)), more_ent (e33a_ok K) (one_ent (e33b_ok K)), more_ent (e34a_ok K) (one_ent (e34b_ok K)), more_ent (e37a_ok K) (one_ent (e37b_ok K)), more_ent (e38a_ok K) (one_ent (e38b_ok K)), more_ent (e56a_ok K) (one_ent (e56b_ok K)), more_ent (e57a_ok K) (one_ent (e57b_ok K)), more_ent (e58a_ok K) (one_ent (e58b_ok K)), more_ent (e59a_ok K) (one_ent (e59b_ok K)), more_ent (e60a_ok K) (one_ent (e60b_ok K)), trivial⟩ trivial Tryz.func63 rfl lp63 trivial
noncomputable def implf63 (K : Nat) (x1 : STN) (x2 : STN) : Option (Bool) :=
  (ob (implf34a K x1) fun y1 => (ob (implf34a K x2) fun y2 => (bif y1.1 == y2.1 then (bif y1.2 == y2.2 then (ob (implf56a K x1) fun y3 => (ob (implf56a K x2) fun y4 => (bif y3 == y4 then (ob (implf60a K x1) fun y5 => (ob (implf60a K x2) fun y6 => (bif y5 == y6 then (ob (implf57a K x1) fun y7 => (ob (implf57a K x2) fun y8 => (bif y7 == y8 then (ob (implf37a K x1) fun y9 => (ob (implf37a K x2) fun y10 => (bif y9 == y10 then (ob (implf33a K x1) fun y11 => (ob (implf33a K x2) fun y12 => (bif y11 == y12 then (ob (implf58a K x1) fun y13 => (ob (implf58a K x2) fun y14 => (bif y13 == y14 then (ob (implf38a K x1) fun y15 => (ob (implf38a K x2) fun y16 => (bif y15 == y16 then (ob (implf59a K x1) fun y17 => (ob (implf59a K x2) fun y18 => (bif y17 == y18 then (ob (implf21a K x1) fun y19 => (ob (implf21a K x2) fun y20 => some (y19.toList == y20.toList))) else some (false)))) else some (false)))) else some (false)))) else some (false)))) else some (false)))) else some (false)))) else some (false)))) else some (false)))) else some (false)) else some (false))))
theorem q63 (K : Nat) (x1 : STN) (x2 : STN) : evFnK (α := Bool) (L63_0 K) 3 63 Tryz.f63.results.toList (codeOf Tryz.f63) ins63 res63 (fun p => p.1) (x1, x2, ()) = implf63 K x1 x2 := by kernel_rfl
noncomputable def e63 (K : Nat) : Ent := ⟨ins63, res63, Bool, fun x => implf63 K x.1 x.2.1, fun _ => (fun y => (y, (()))), false⟩
theorem e63_ok (K : Nat) : EntOk Tryz.prog 63 (e63 K) := entOk_k (ins := ins63) (rs := res63) (α := Bool) (lib63_0 K) (d := 3) Tryz.func63 rfl (by kernel_rfl) (by kernel_rfl) (by kernel_rfl) (fun x => implf63 K x.1 x.2.1) (fun p => p.1) (fun y => (y, (()))) (fun _ => rfl) (fun x => q63 K x.1 x.2.1)

end Go.Proofs.YtbpjodikknbcoaaGreatDoor
