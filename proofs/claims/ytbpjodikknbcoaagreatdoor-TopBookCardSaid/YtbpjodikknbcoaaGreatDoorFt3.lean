/- What the functions compute: printed by a program of this claim's author. -/
import Derived.Test.YtbpjodikknbcoaaGreatDoorFt2
set_option maxRecDepth 100000
set_option linter.unusedVariables false
set_option linter.unusedSimpArgs false
namespace Go.Proofs.YtbpjodikknbcoaaGreatDoor
open Go Go.Pv
/-! diaphone/diaphonetop.firm -/
abbrev ins20a : Fs := [(.dat (.pr (.sl (.int .i64)) (.pr (.sl (.int .i64)) (.pr (.pr (.sl (.arr 2 (.int .i64))) (.sl (.int .i64))) (.pr (.sl (.str)) (.int .i64))))), false), (.dat (.int .i64), false)]
abbrev res20a : Sh := .cons (.dat .np) (.cons (.dat (.sl .str)) (.cons (.dat .bool) (.un)))
theorem lp20 : loopsIn (codeOf Tryz.f20) 0 = [(0, loopOf 0 (codeOf Tryz.f20))] := by kernel_rfl
noncomputable def L20a_0 (K : Nat) : Lib := mkLibR ti [(31, [e31a K, e31b K]), (50, [e50a K, e50b K])] [] 20 [] [] [] [] [50]
theorem lib20a_0 (K : Nat) : LibOk Tryz.prog (L20a_0 K) := libOk_mkR (ents := [(31, [e31a K, e31b K]), (50, [e50a K, e50b K])]) (bodies := []) (loops := []) order tiOk ⟨more_ent (e31a_ok K) (one_ent (e31b_ok K)), more_ent (e50a_ok K) (one_ent (e50b_ok K)), trivial⟩ trivial Tryz.func20 rfl lp20 ⟨no_lent, trivial⟩ (rngs := []) trivial (frz := []) (opts := []) trivial
abbrev i20a_0 : Fs := [(.dat (.int Go.IntKind.i64), false), (.box (.dat (.pr (.sl (.int Go.IntKind.i64)) (.pr (.sl (.int Go.IntKind.i64)) (.pr (.pr (.sl (.arr 2 (.int Go.IntKind.i64))) (.sl (.int Go.IntKind.i64))) (.pr (.sl (.str)) (.int Go.IntKind.i64)))))), false), (.box (.dat (.pr (.pr (.int Go.IntKind.i32) (.int Go.IntKind.u32)) (.pr (.sl (.int Go.IntKind.i64)) (.pr (.sl (.int Go.IntKind.i64)) (.pr (.pr (.sl (.arr 2 (.int Go.IntKind.i64))) (.sl (.int Go.IntKind.i64))) (.pr (.int Go.IntKind.i64) (.pr (.bool) (.pr (.int Go.IntKind.i64) (.pr (.int Go.IntKind.i64) (.pr (.int Go.IntKind.i64) (.pr (.int Go.IntKind.i64) (.pr (.int Go.IntKind.i64) (.pr (.int Go.IntKind.i64) (.pr (.int Go.IntKind.i64) (.pr (.int Go.IntKind.i64) (.pr (.int Go.IntKind.i64) (.pr (.int Go.IntKind.i64) (.sl (.str))))))))))))))))))), true), (.own (.str), true), (.dat (.int Go.IntKind.i64), true)]
noncomputable def implb20a_0 (K : Nat) (rc : Int → ((List Int) × ((List Int) × (BOX × ((List ByteArray) × Int)))) → STN → (List ByteArray) → Int → Option (STN × (List ByteArray) × Int × Unit)) (x1 : Int) (x2 : ((List Int) × ((List Int) × (BOX × ((List ByteArray) × Int))))) (x3 : STN) (x4 : (List ByteArray)) (x5 : Int) : Option (STN × (List ByteArray) × Int × Unit) :=
  (bif decide (x5 < (↑x2.2.2.2.1.length : Int)) then (bif decide (x5 < x1) then (if (0 : Int) ≤ x5 ∧ x5 < (↑x2.2.2.2.1.length : Int) then (ob (implf31a K x3 (x2.2.2.2.1.getD x5.toNat ByteArray.empty)) fun y1 => (bif y1.1 == (0 : Int) then (if (0 : Int) ≤ x5 ∧ x5 < (↑x2.2.2.2.1.length : Int) then (if (x4.length + ((List.replicate 1 ByteArray.empty).set 0 (x2.2.2.2.1.getD x5.toNat ByteArray.empty)).length) * 16 ≤ 140737488355328 then (rc x1 x2 y1.2 (x4 ++ (List.replicate 1 ByteArray.empty).set 0 (x2.2.2.2.1.getD x5.toNat ByteArray.empty)) (IntKind.i64.wrap (x5 + (1 : Int)))) else none) else none) else (rc x1 x2 y1.2 x4 (IntKind.i64.wrap (x5 + (1 : Int)))))) else none) else some ((x3, x4, x5, ()))) else some ((x3, x4, x5, ())))
noncomputable def impll20a_0 (K : Nat) : Nat → Int → ((List Int) × ((List Int) × (BOX × ((List ByteArray) × Int)))) → STN → (List ByteArray) → Int → Option (STN × (List ByteArray) × Int × Unit)
  | 0, _, _, _, _, _ => none
  | k + 1, x1, x2, x3, x4, x5 => implb20a_0 K (impll20a_0 K k) x1 x2 x3 x4 x5
noncomputable def n20a_0 (K : Nat) : Lent := ⟨[1, 2, 7, 9, 10], i20a_0, [27, 28, 29, 30, 31, 32, 33, 34, 35, 36, 39, 40, 41, 42, 43, 44, 45, 46, 47, 48, 49, 50, 51, 52, 53, 54, 37, 38], [0], false, res20a, fun x => impll20a_0 K K x.1 x.2.1 x.2.2.1 x.2.2.2.1 x.2.2.2.2.1, [], none⟩
theorem q20a_0 (K : Nat) (rc : Int → ((List Int) × ((List Int) × (BOX × ((List ByteArray) × Int)))) → STN → (List ByteArray) → Int → Option (STN × (List ByteArray) × Int × Unit)) (x1 : Int) (x2 : ((List Int) × ((List Int) × (BOX × ((List ByteArray) × Int))))) (x3 : STN) (x4 : (List ByteArray)) (x5 : Int) : evLoop (L20a_0 K) 3 20 Tryz.f20.results.toList (loopOf 0 (codeOf Tryz.f20)) 0 [1, 2, 7, 9, 10] [] i20a_0 [0] false res20a (fun x => rc x.1 x.2.1 x.2.2.1 x.2.2.2.1 x.2.2.2.2.1) (x1, x2, x3, x4, x5, ()) = implb20a_0 K rc x1 x2 x3 x4 x5 := by kernel_rfl
theorem lp20a_0 : loopsIn (loopOf 0 (codeOf Tryz.f20)) 0 = [] := by kernel_rfl
theorem n20a_0_ok (K : Nat) : LentOk Tryz.prog Tryz.f20 (loopOf 0 (codeOf Tryz.f20)) (n20a_0 K) := lentOk_kR (slots := [1, 2, 7, 9, 10]) (ali := []) (ins := i20a_0) (writes := [27, 28, 29, 30, 31, 32, 33, 34, 35, 36, 39, 40, 41, 42, 43, 44, 45, 46, 47, 48, 49, 50, 51, 52, 53, 54, 37, 38]) (exits := [0]) (rets := false) (rs := res20a) (d := 3) (lib20a_0 K) Tryz.func20 rfl (.inl (by kernel_rfl)) lp20a_0 trivial (by kernel_rfl) (by kernel_rfl) (by kernel_rfl) (by kernel_rfl) (by kernel_rfl) (fun k x => impll20a_0 K k x.1 x.2.1 x.2.2.1 x.2.2.2.1 x.2.2.2.2.1) (fun _ => rfl) (fun k x => q20a_0 K (impll20a_0 K k) x.1 x.2.1 x.2.2.1 x.2.2.2.1 x.2.2.2.2.1) K
noncomputable def L20a_1 (K : Nat) : Lib := mkLibR ti [(31, [e31a K, e31b K]), (50, [e50a K, e50b K])] [] 20 [(0, [n20a_0 K])] [] [] [] [50]
theorem lib20a_1 (K : Nat) : LibOk Tryz.prog (L20a_1 K) := libOk_mkR (ents := [(31, [e31a K, e31b K]), (50, [e50a K, e50b K])]) (bodies := []) (loops := [(0, [n20a_0 K])]) order tiOk ⟨more_ent (e31a_ok K) (one_ent (e31b_ok K)), more_ent (e50a_ok K) (one_ent (e50b_ok K)), trivial⟩ trivial Tryz.func20 rfl lp20 ⟨one_lent (n20a_0_ok K), trivial⟩ (rngs := []) trivial (frz := []) (opts := []) trivial
noncomputable def implf20a (K : Nat) (x1 : ((List Int) × ((List Int) × (BOX × ((List ByteArray) × Int))))) (x2 : Int) : Option (Unit × (List ByteArray) × Bool) :=
  (oel (implf50a K x1.1 x1.2.1 x1.2.2.1) (ob (implf50b K x1.1 x1.2.1 x1.2.2.1) fun y1 => (bif y1.2 != (0 : Int) then some (((), [], false)) else (ob (impll20a_0 K K x2 x1 y1.1 [] ((0 : Int))) fun y2 => none))) fun y3 => (bif y3.2 != (0 : Int) then some (((), [], false)) else some (((), [], false))))
theorem q20a (K : Nat) (x1 : ((List Int) × ((List Int) × (BOX × ((List ByteArray) × Int))))) (x2 : Int) : evFnK (α := Unit × (List ByteArray) × Bool) (L20a_1 K) 3 20 Tryz.f20.results.toList (codeOf Tryz.f20) ins20a res20a (fun p => (p.1.1, p.1.2.1, p.1.2.2.1)) (x1, x2, ()) = implf20a K x1 x2 := by kernel_rfl
noncomputable def e20a (K : Nat) : Ent := ⟨ins20a, res20a, Unit × (List ByteArray) × Bool, fun x => implf20a K x.1 x.2.1, fun _ => (fun y => ((y.1, y.2.1, y.2.2, ()), (()))), false⟩
theorem e20a_ok (K : Nat) : EntOk Tryz.prog 20 (e20a K) := entOk_k (ins := ins20a) (rs := res20a) (α := Unit × (List ByteArray) × Bool) (lib20a_1 K) (d := 3) Tryz.func20 rfl (by kernel_rfl) (by kernel_rfl) (by kernel_rfl) (fun x => implf20a K x.1 x.2.1) (fun p => (p.1.1, p.1.2.1, p.1.2.2.1)) (fun y => ((y.1, y.2.1, y.2.2, ()), (()))) (fun _ => rfl) (fun x => q20a K x.1 x.2.1)

abbrev ins20b : Fs := [(.dat (.pr (.sl (.int .i64)) (.pr (.sl (.int .i64)) (.pr (.pr (.sl (.arr 2 (.int .i64))) (.sl (.int .i64))) (.pr (.sl (.str)) (.int .i64))))), false), (.dat (.int .i64), false)]
abbrev res20b : Sh := .cons (.box (.dat (.pr (.pr (.int .i32) (.int .u32)) (.pr (.sl (.int .i64)) (.pr (.sl (.int .i64)) (.pr (.pr (.sl (.arr 2 (.int .i64))) (.sl (.int .i64))) (.pr (.int .i64) (.pr (.bool) (.pr (.int .i64) (.pr (.int .i64) (.pr (.int .i64) (.pr (.int .i64) (.pr (.int .i64) (.pr (.int .i64) (.pr (.int .i64) (.pr (.int .i64) (.pr (.int .i64) (.pr (.int .i64) (.sl (.str)))))))))))))))))))) (.cons (.dat (.sl .str)) (.cons (.dat .bool) (.un)))
noncomputable def L20b_0 (K : Nat) : Lib := mkLibR ti [(31, [e31a K, e31b K]), (50, [e50a K, e50b K])] [] 20 [] [] [] [] [50]
theorem lib20b_0 (K : Nat) : LibOk Tryz.prog (L20b_0 K) := libOk_mkR (ents := [(31, [e31a K, e31b K]), (50, [e50a K, e50b K])]) (bodies := []) (loops := []) order tiOk ⟨more_ent (e31a_ok K) (one_ent (e31b_ok K)), more_ent (e50a_ok K) (one_ent (e50b_ok K)), trivial⟩ trivial Tryz.func20 rfl lp20 ⟨no_lent, trivial⟩ (rngs := []) trivial (frz := []) (opts := []) trivial
abbrev i20b_0 : Fs := [(.dat (.int Go.IntKind.i64), false), (.box (.dat (.pr (.sl (.int Go.IntKind.i64)) (.pr (.sl (.int Go.IntKind.i64)) (.pr (.pr (.sl (.arr 2 (.int Go.IntKind.i64))) (.sl (.int Go.IntKind.i64))) (.pr (.sl (.str)) (.int Go.IntKind.i64)))))), false), (.box (.dat (.pr (.pr (.int Go.IntKind.i32) (.int Go.IntKind.u32)) (.pr (.sl (.int Go.IntKind.i64)) (.pr (.sl (.int Go.IntKind.i64)) (.pr (.pr (.sl (.arr 2 (.int Go.IntKind.i64))) (.sl (.int Go.IntKind.i64))) (.pr (.int Go.IntKind.i64) (.pr (.bool) (.pr (.int Go.IntKind.i64) (.pr (.int Go.IntKind.i64) (.pr (.int Go.IntKind.i64) (.pr (.int Go.IntKind.i64) (.pr (.int Go.IntKind.i64) (.pr (.int Go.IntKind.i64) (.pr (.int Go.IntKind.i64) (.pr (.int Go.IntKind.i64) (.pr (.int Go.IntKind.i64) (.pr (.int Go.IntKind.i64) (.sl (.str))))))))))))))))))), true), (.own (.str), true), (.dat (.int Go.IntKind.i64), true)]
noncomputable def implb20b_0 (K : Nat) (rc : Int → ((List Int) × ((List Int) × (BOX × ((List ByteArray) × Int)))) → STN → (List ByteArray) → Int → Option (STN × (List ByteArray) × Int × Unit)) (x1 : Int) (x2 : ((List Int) × ((List Int) × (BOX × ((List ByteArray) × Int))))) (x3 : STN) (x4 : (List ByteArray)) (x5 : Int) : Option (STN × (List ByteArray) × Int × Unit) :=
  (bif decide (x5 < (↑x2.2.2.2.1.length : Int)) then (bif decide (x5 < x1) then (if (0 : Int) ≤ x5 ∧ x5 < (↑x2.2.2.2.1.length : Int) then (ob (implf31a K x3 (x2.2.2.2.1.getD x5.toNat ByteArray.empty)) fun y1 => (bif y1.1 == (0 : Int) then (if (0 : Int) ≤ x5 ∧ x5 < (↑x2.2.2.2.1.length : Int) then (if (x4.length + ((List.replicate 1 ByteArray.empty).set 0 (x2.2.2.2.1.getD x5.toNat ByteArray.empty)).length) * 16 ≤ 140737488355328 then (rc x1 x2 y1.2 (x4 ++ (List.replicate 1 ByteArray.empty).set 0 (x2.2.2.2.1.getD x5.toNat ByteArray.empty)) (IntKind.i64.wrap (x5 + (1 : Int)))) else none) else none) else (rc x1 x2 y1.2 x4 (IntKind.i64.wrap (x5 + (1 : Int)))))) else none) else some ((x3, x4, x5, ()))) else some ((x3, x4, x5, ())))
noncomputable def impll20b_0 (K : Nat) : Nat → Int → ((List Int) × ((List Int) × (BOX × ((List ByteArray) × Int)))) → STN → (List ByteArray) → Int → Option (STN × (List ByteArray) × Int × Unit)
  | 0, _, _, _, _, _ => none
  | k + 1, x1, x2, x3, x4, x5 => implb20b_0 K (impll20b_0 K k) x1 x2 x3 x4 x5
noncomputable def n20b_0 (K : Nat) : Lent := ⟨[1, 2, 7, 9, 10], i20b_0, [27, 28, 29, 30, 31, 32, 33, 34, 35, 36, 39, 40, 41, 42, 43, 44, 45, 46, 47, 48, 49, 50, 51, 52, 53, 54, 37, 38], [0], false, res20b, fun x => impll20b_0 K K x.1 x.2.1 x.2.2.1 x.2.2.2.1 x.2.2.2.2.1, [], none⟩
theorem q20b_0 (K : Nat) (rc : Int → ((List Int) × ((List Int) × (BOX × ((List ByteArray) × Int)))) → STN → (List ByteArray) → Int → Option (STN × (List ByteArray) × Int × Unit)) (x1 : Int) (x2 : ((List Int) × ((List Int) × (BOX × ((List ByteArray) × Int))))) (x3 : STN) (x4 : (List ByteArray)) (x5 : Int) : evLoop (L20b_0 K) 3 20 Tryz.f20.results.toList (loopOf 0 (codeOf Tryz.f20)) 0 [1, 2, 7, 9, 10] [] i20b_0 [0] false res20b (fun x => rc x.1 x.2.1 x.2.2.1 x.2.2.2.1 x.2.2.2.2.1) (x1, x2, x3, x4, x5, ()) = implb20b_0 K rc x1 x2 x3 x4 x5 := by kernel_rfl
theorem lp20b_0 : loopsIn (loopOf 0 (codeOf Tryz.f20)) 0 = [] := by kernel_rfl
theorem n20b_0_ok (K : Nat) : LentOk Tryz.prog Tryz.f20 (loopOf 0 (codeOf Tryz.f20)) (n20b_0 K) := lentOk_kR (slots := [1, 2, 7, 9, 10]) (ali := []) (ins := i20b_0) (writes := [27, 28, 29, 30, 31, 32, 33, 34, 35, 36, 39, 40, 41, 42, 43, 44, 45, 46, 47, 48, 49, 50, 51, 52, 53, 54, 37, 38]) (exits := [0]) (rets := false) (rs := res20b) (d := 3) (lib20b_0 K) Tryz.func20 rfl (.inl (by kernel_rfl)) lp20b_0 trivial (by kernel_rfl) (by kernel_rfl) (by kernel_rfl) (by kernel_rfl) (by kernel_rfl) (fun k x => impll20b_0 K k x.1 x.2.1 x.2.2.1 x.2.2.2.1 x.2.2.2.2.1) (fun _ => rfl) (fun k x => q20b_0 K (impll20b_0 K k) x.1 x.2.1 x.2.2.1 x.2.2.2.1 x.2.2.2.2.1) K
noncomputable def L20b_1 (K : Nat) : Lib := mkLibR ti [(31, [e31a K, e31b K]), (50, [e50a K, e50b K])] [] 20 [(0, [n20b_0 K])] [] [] [] [50]
theorem lib20b_1 (K : Nat) : LibOk Tryz.prog (L20b_1 K) := libOk_mkR (ents := [(31, [e31a K, e31b K]), (50, [e50a K, e50b K])]) (bodies := []) (loops := [(0, [n20b_0 K])]) order tiOk ⟨more_ent (e31a_ok K) (one_ent (e31b_ok K)), more_ent (e50a_ok K) (one_ent (e50b_ok K)), trivial⟩ trivial Tryz.func20 rfl lp20 ⟨one_lent (n20b_0_ok K), trivial⟩ (rngs := []) trivial (frz := []) (opts := []) trivial
noncomputable def implf20b (K : Nat) (x1 : ((List Int) × ((List Int) × (BOX × ((List ByteArray) × Int))))) (x2 : Int) : Option (STN × (List ByteArray) × Bool) :=
  (oel (implf50a K x1.1 x1.2.1 x1.2.2.1) (ob (implf50b K x1.1 x1.2.1 x1.2.2.1) fun y1 => (bif y1.2 != (0 : Int) then none else (ob (impll20b_0 K K x2 x1 y1.1 [] ((0 : Int))) fun y2 => some ((y2.1, y2.2.1, true))))) fun y3 => (bif y3.2 != (0 : Int) then none else none))
theorem q20b (K : Nat) (x1 : ((List Int) × ((List Int) × (BOX × ((List ByteArray) × Int))))) (x2 : Int) : evFnK (α := STN × (List ByteArray) × Bool) (L20b_1 K) 3 20 Tryz.f20.results.toList (codeOf Tryz.f20) ins20b res20b (fun p => (p.1.1, p.1.2.1, p.1.2.2.1)) (x1, x2, ()) = implf20b K x1 x2 := by kernel_rfl
noncomputable def e20b (K : Nat) : Ent := ⟨ins20b, res20b, STN × (List ByteArray) × Bool, fun x => implf20b K x.1 x.2.1, fun _ => (fun y => ((y.1, y.2.1, y.2.2, ()), (()))), false⟩
theorem e20b_ok (K : Nat) : EntOk Tryz.prog 20 (e20b K) := entOk_k (ins := ins20b) (rs := res20b) (α := STN × (List ByteArray) × Bool) (lib20b_1 K) (d := 3) Tryz.func20 rfl (by kernel_rfl) (by kernel_rfl) (by kernel_rfl) (fun x => implf20b K x.1 x.2.1) (fun p => (p.1.1, p.1.2.1, p.1.2.2.1)) (fun y => ((y.1, y.2.1, y.2.2, ()), (()))) (fun _ => rfl) (fun x => q20b K x.1 x.2.1)

/-! diaphone/station.write -/
abbrev ins67 : Fs := [(.dat (.sl .str), false)]
abbrev res67 : Sh := .dat .str
noncomputable def implf67 (K : Nat) (x1 : List ByteArray) : Option (ByteArray) := if x1.length ≤ 1099511627776 then writeR (implf66 K) 0 ByteArray.empty x1 else none
noncomputable def e67 (K : Nat) : Ent := ⟨ins67, res67, ByteArray, fun x => implf67 K x.1, fun _ => (fun y => (y, ())), false⟩
theorem e67_ok (K : Nat) : EntOk Tryz.prog 67 (e67 K) := write_ent (e66_ok K)

/-! (*diaphone/station.Station).look -/
abbrev ins68a : Fs := [(.box (.dat (.pr (.pr (.int .i32) (.int .u32)) (.pr (.sl (.int .i64)) (.pr (.sl (.int .i64)) (.pr (.pr (.sl (.arr 2 (.int .i64))) (.sl (.int .i64))) (.pr (.int .i64) (.pr (.bool) (.pr (.int .i64) (.pr (.int .i64) (.pr (.int .i64) (.pr (.int .i64) (.pr (.int .i64) (.pr (.int .i64) (.pr (.int .i64) (.pr (.int .i64) (.pr (.int .i64) (.pr (.int .i64) (.sl (.str))))))))))))))))))), false)]
abbrev res68a : Sh := .dat (.pr (.int .i64) (.pr (.bool) (.pr (.int .i64) (.pr (.int .i64) (.pr (.int .i64) (.pr (.int .i64) (.pr (.int .i64) (.pr (.int .i64) (.pr (.int .i64) (.pr (.int .i64) (.pr (.int .i64) (.pr (.int .i64) (.sl (.str))))))))))))))
noncomputable def implf68a (K : Nat) (x1 : ((Int × Int) × (List Int) × (List Int) × BOX × (Int × Bool × Int × Int × Int × Int × Int × Int × Int × Int × Int × Int × (List ByteArray)))) : Option ((Int × Bool × Int × Int × Int × Int × Int × Int × Int × Int × Int × Int × (List ByteArray))) := if x1.1.1 = 0 then some x1.2.2.2.2 else none
noncomputable def e68a (K : Nat) : Ent := ⟨ins68a, res68a, (Int × Bool × Int × Int × Int × Int × Int × Int × Int × Int × Int × Int × (List ByteArray)), fun x => implf68a K x.1, fun _ => (fun y => (y, ())), false⟩
theorem e68a_ok (K : Nat) : EntOk Tryz.prog 68 (e68a K) := look_ent

abbrev ins68b : Fs := [(.dat .np, false)]
abbrev res68b : Sh := .dat (.pr (.int .i64) (.pr (.bool) (.pr (.int .i64) (.pr (.int .i64) (.pr (.int .i64) (.pr (.int .i64) (.pr (.int .i64) (.pr (.int .i64) (.pr (.int .i64) (.pr (.int .i64) (.pr (.int .i64) (.pr (.int .i64) (.sl (.str))))))))))))))
noncomputable def implf68b (K : Nat) (x1 : Unit) : Option ((Int × Bool × Int × Int × Int × Int × Int × Int × Int × Int × Int × Int × (List ByteArray))) := some (Ty.dflt (.pr (.int .i64) (.pr (.bool) (.pr (.int .i64) (.pr (.int .i64) (.pr (.int .i64) (.pr (.int .i64) (.pr (.int .i64) (.pr (.int .i64) (.pr (.int .i64) (.pr (.int .i64) (.pr (.int .i64) (.pr (.int .i64) (.sl (.str)))))))))))))))
noncomputable def e68b (K : Nat) : Ent := ⟨ins68b, res68b, (Int × Bool × Int × Int × Int × Int × Int × Int × Int × Int × Int × Int × (List ByteArray)), fun x => implf68b K x.1, fun _ => (fun y => (y, ())), false⟩
theorem e68b_ok (K : Nat) : EntOk Tryz.prog 68 (e68b K) := look_nil

/-! (*diaphone/station.Station).Book -/
abbrev ins21a : Fs := [(.box (.dat (.pr (.pr (.int .i32) (.int .u32)) (.pr (.sl (.int .i64)) (.pr (.sl (.int .i64)) (.pr (.pr (.sl (.arr 2 (.int .i64))) (.sl (.int .i64))) (.pr (.int .i64) (.pr (.bool) (.pr (.int .i64) (.pr (.int .i64) (.pr (.int .i64) (.pr (.int .i64) (.pr (.int .i64) (.pr (.int .i64) (.pr (.int .i64) (.pr (.int .i64) (.pr (.int .i64) (.pr (.int .i64) (.sl (.str))))))))))))))))))), false)]
abbrev res21a : Sh := .dat (.str)
theorem lp21 : loopsIn (codeOf Tryz.f21) 0 = [] := by kernel_rfl
noncomputable def L21a_0 (K : Nat) : Lib := mkLib ti [(67, [e67 K]), (68, [e68a K, e68b K])] [] 21 []
theorem lib21a_0 (K : Nat) : LibOk Tryz.prog (L21a_0 K) := libOk_mk (ents := [(67, [e67 K]), (68, [e68a K, e68b K])]) (bodies := []) (loops := []) order tiOk ⟨one_ent (e67_ok K), more_ent (e68a_ok K) (one_ent (e68b_ok K)), trivial⟩ trivial Tryz.func21 rfl lp21 trivial
noncomputable def implf21a (K : Nat) (x1 : STN) : Option (ByteArray) :=
  (ob (implf68a K x1) fun y1 => (ob (implf67 K y1.2.2.2.2.2.2.2.2.2.2.2.2) fun y2 => some (y2)))
theorem q21a (K : Nat) (x1 : STN) : evFnK (α := ByteArray) (L21a_0 K) 3 21 Tryz.f21.results.toList (codeOf Tryz.f21) ins21a res21a (fun p => p.1) (x1, ()) = implf21a K x1 := by kernel_rfl
noncomputable def e21a (K : Nat) : Ent := ⟨ins21a, res21a, ByteArray, fun x => implf21a K x.1, fun _ => (fun y => (y, (()))), false⟩
theorem e21a_ok (K : Nat) : EntOk Tryz.prog 21 (e21a K) := entOk_k (ins := ins21a) (rs := res21a) (α := ByteArray) (lib21a_0 K) (d := 3) Tryz.func21 rfl (by kernel_rfl) (by kernel_rfl) (by kernel_rfl) (fun x => implf21a K x.1) (fun p => p.1) (fun y => (y, (()))) (fun _ => rfl) (fun x => q21a K x.1)

abbrev ins21b : Fs := [(.dat .np, false)]
abbrev res21b : Sh := .dat (.str)
noncomputable def L21b_0 (K : Nat) : Lib := mkLib ti [(67, [e67 K]), (68, [e68a K, e68b K])] [] 21 []
theorem lib21b_0 (K : Nat) : LibOk Tryz.prog (L21b_0 K) := libOk_mk (ents := [(67, [e67 K]), (68, [e68a K, e68b K])]) (bodies := []) (loops := []) order tiOk ⟨one_ent (e67_ok K), more_ent (e68a_ok K) (one_ent (e68b_ok K)), trivial⟩ trivial Tryz.func21 rfl lp21 trivial
noncomputable def implf21b (K : Nat) (x1 : Unit) : Option (ByteArray) :=
  (ob (implf68b K x1) fun y1 => (ob (implf67 K y1.2.2.2.2.2.2.2.2.2.2.2.2) fun y2 => some (y2)))
theorem q21b (K : Nat) (x1 : Unit) : evFnK (α := ByteArray) (L21b_0 K) 3 21 Tryz.f21.results.toList (codeOf Tryz.f21) ins21b res21b (fun p => p.1) (x1, ()) = implf21b K x1 := by kernel_rfl
noncomputable def e21b (K : Nat) : Ent := ⟨ins21b, res21b, ByteArray, fun x => implf21b K x.1, fun _ => (fun y => (y, (()))), false⟩
theorem e21b_ok (K : Nat) : EntOk Tryz.prog 21 (e21b K) := entOk_k (ins := ins21b) (rs := res21b) (α := ByteArray) (lib21b_0 K) (d := 3) Tryz.func21 rfl (by kernel_rfl) (by kernel_rfl) (by kernel_rfl) (fun x => implf21b K x.1) (fun p => p.1) (fun y => (y, (()))) (fun _ => rfl) (fun x => q21b K x.1)

/-! diaphone/station.Write -/
abbrev ins22 : Fs := [(.dat (.sl (.str)), false)]
abbrev res22 : Sh := .cons (.dat (.str)) (.cons (.dat (.int .i64)) (.un))
theorem lp22 : loopsIn (codeOf Tryz.f22) 0 = [(0, loopOf 0 (codeOf Tryz.f22))] := by kernel_rfl
noncomputable def L22_0 (K : Nat) : Lib := mkLib ti [(65, [e65 K]), (67, [e67 K])] [] 22 []
theorem lib22_0 (K : Nat) : LibOk Tryz.prog (L22_0 K) := libOk_mk (ents := [(65, [e65 K]), (67, [e67 K])]) (bodies := []) (loops := []) order tiOk ⟨one_ent (e65_ok K), one_ent (e67_ok K), trivial⟩ trivial Tryz.func22 rfl lp22 ⟨no_lent, trivial⟩
abbrev i22_0 : Fs := [(.dat (.sl (.str)), false), (.dat (.sl (.str)), false), (.dat (.int Go.IntKind.i64), false), (.dat (.int Go.IntKind.i64), true)]
noncomputable def implb22_0 (K : Nat) (rc : (List ByteArray) → (List ByteArray) → Int → Int → Option (Sum (Int × Unit) (ByteArray × Int × Unit))) (x1 : (List ByteArray)) (x2 : (List ByteArray)) (x3 : Int) (x4 : Int) : Option (Sum (Int × Unit) (ByteArray × Int × Unit)) :=
  (bif decide (x4 < x3) then (if (0 : Int) ≤ x4 ∧ x4 < (↑x2.length : Int) then (ob (implf65 K (x2.getD x4.toNat ByteArray.empty)) fun y1 => (bif !y1 then some (Sum.inr (ByteArray.mk #[], (1 : Int), ())) else (rc x1 x2 x3 (IntKind.i64.wrap (x4 + (1 : Int)))))) else none) else some (Sum.inl (x4, ())))
noncomputable def impll22_0 (K : Nat) : Nat → (List ByteArray) → (List ByteArray) → Int → Int → Option (Sum (Int × Unit) (ByteArray × Int × Unit))
  | 0, _, _, _, _ => none
  | k + 1, x1, x2, x3, x4 => implb22_0 K (impll22_0 K k) x1 x2 x3 x4
noncomputable def n22_0 (K : Nat) : Lent := ⟨[0, 9, 10, 11], i22_0, [12, 13, 14, 5, 15, 16, 17, 2, 3, 18], [0], true, res22, fun x => impll22_0 K K x.1 x.2.1 x.2.2.1 x.2.2.2.1, [], none⟩
theorem q22_0 (K : Nat) (rc : (List ByteArray) → (List ByteArray) → Int → Int → Option (Sum (Int × Unit) (ByteArray × Int × Unit))) (x1 : (List ByteArray)) (x2 : (List ByteArray)) (x3 : Int) (x4 : Int) : evLoop (L22_0 K) 3 22 Tryz.f22.results.toList (loopOf 0 (codeOf Tryz.f22)) 0 [0, 9, 10, 11] [] i22_0 [0] true res22 (fun x => rc x.1 x.2.1 x.2.2.1 x.2.2.2.1) (x1, x2, x3, x4, ()) = implb22_0 K rc x1 x2 x3 x4 := by kernel_rfl
theorem lp22_0 : loopsIn (loopOf 0 (codeOf Tryz.f22)) 0 = [] := by kernel_rfl
theorem n22_0_ok (K : Nat) : LentOk Tryz.prog Tryz.f22 (loopOf 0 (codeOf Tryz.f22)) (n22_0 K) := lentOk_k (slots := [0, 9, 10, 11]) (ali := []) (ins := i22_0) (writes := [12, 13, 14, 5, 15, 16, 17, 2, 3, 18]) (exits := [0]) (rets := true) (rs := res22) (d := 3) (lib22_0 K) lp22_0 trivial (by kernel_rfl) (by kernel_rfl) (by kernel_rfl) (by kernel_rfl) (by kernel_rfl) (fun k x => impll22_0 K k x.1 x.2.1 x.2.2.1 x.2.2.2.1) (fun _ => rfl) (fun k x => q22_0 K (impll22_0 K k) x.1 x.2.1 x.2.2.1 x.2.2.2.1) K
noncomputable def L22_1 (K : Nat) : Lib := mkLib ti [(65, [e65 K]), (67, [e67 K])] [] 22 [(0, [n22_0 K])]
theorem lib22_1 (K : Nat) : LibOk Tryz.prog (L22_1 K) := libOk_mk (ents := [(65, [e65 K]), (67, [e67 K])]) (bodies := []) (loops := [(0, [n22_0 K])]) order tiOk ⟨one_ent (e65_ok K), one_ent (e67_ok K), trivial⟩ trivial Tryz.func22 rfl lp22 ⟨one_lent (n22_0_ok K), trivial⟩
noncomputable def implf22 (K : Nat) (x1 : (List ByteArray)) : Option (ByteArray × Int) :=
  (bif decide ((↑x1.length : Int) > (100 : Int)) then some ((ByteArray.mk #[], (3 : Int))) else (ob (impll22_0 K K x1 x1 ((↑x1.length : Int)) ((0 : Int))) fun y1 => (match y1 with | .inl y2 => (ob (implf67 K x1) fun y3 => some ((y3, (0 : Int)))) | .inr y2 => some ((y2.1, y2.2.1)))))
theorem q22 (K : Nat) (x1 : (List ByteArray)) : evFnK (α := ByteArray × Int) (L22_1 K) 3 22 Tryz.f22.results.toList (codeOf Tryz.f22) ins22 res22 (fun p => (p.1.1, p.1.2.1)) (x1, ()) = implf22 K x1 := by kernel_rfl
noncomputable def e22 (K : Nat) : Ent := ⟨ins22, res22, ByteArray × Int, fun x => implf22 K x.1, fun _ => (fun y => ((y.1, y.2, ()), (()))), false⟩
theorem e22_ok (K : Nat) : EntOk Tryz.prog 22 (e22 K) := entOk_k (ins := ins22) (rs := res22) (α := ByteArray × Int) (lib22_1 K) (d := 3) Tryz.func22 rfl (by kernel_rfl) (by kernel_rfl) (by kernel_rfl) (fun x => implf22 K x.1) (fun p => (p.1.1, p.1.2.1)) (fun y => ((y.1, y.2, ()), (()))) (fun _ => rfl) (fun x => q22 K x.1)

/-! diaphone/station.Merge -/
abbrev ins23 : Fs := [(.dat (.str), false), (.dat (.str), false)]
abbrev res23 : Sh := .cons (.dat (.str)) (.cons (.dat (.int .i64)) (.cons (.dat (.int .i64)) (.un)))
theorem lp23 : loopsIn (codeOf Tryz.f23) 0 = [(0, loopOf 0 (codeOf Tryz.f23))] := by kernel_rfl
noncomputable def L23_0 (K : Nat) : Lib := mkLib ti [(19, [e19 K])] [] 23 []
theorem lib23_0 (K : Nat) : LibOk Tryz.prog (L23_0 K) := libOk_mk (ents := [(19, [e19 K])]) (bodies := []) (loops := []) order tiOk ⟨one_ent (e19_ok K), trivial⟩ trivial Tryz.func23 rfl lp23 ⟨no_lent, trivial⟩
abbrev i23_0 : Fs := [(.dat (.str), false), (.dat (.str), false), (.dat (.sl (.str)), false), (.dat (.sl (.str)), false), (.dat (.int Go.IntKind.i64), false), (.dat (.int Go.IntKind.i64), true)]
noncomputable def implb23_0 (K : Nat) (rc : ByteArray → ByteArray → (List ByteArray) → (List ByteArray) → Int → Int → Option (Sum (Int × Unit) (ByteArray × Int × Int × Unit))) (x1 : ByteArray) (x2 : ByteArray) (x3 : (List ByteArray)) (x4 : (List ByteArray)) (x5 : Int) (x6 : Int) : Option (Sum (Int × Unit) (ByteArray × Int × Int × Unit)) :=
  (bif decide (x6 < x5) then (if (0 : Int) ≤ x6 ∧ x6 < (↑x3.length : Int) then (if (0 : Int) ≤ x6 ∧ x6 < (↑x4.length : Int) then (bif !(x3.getD x6.toNat ByteArray.empty).toList == (x4.getD x6.toNat ByteArray.empty).toList then some (Sum.inr (ByteArray.mk #[], x6, (7 : Int), ())) else (rc x1 x2 x3 x4 x5 (IntKind.i64.wrap (x6 + (1 : Int))))) else none) else none) else some (Sum.inl (x6, ())))
noncomputable def impll23_0 (K : Nat) : Nat → ByteArray → ByteArray → (List ByteArray) → (List ByteArray) → Int → Int → Option (Sum (Int × Unit) (ByteArray × Int × Int × Unit))
  | 0, _, _, _, _, _, _ => none
  | k + 1, x1, x2, x3, x4, x5, x6 => implb23_0 K (impll23_0 K k) x1 x2 x3 x4 x5 x6
noncomputable def n23_0 (K : Nat) : Lent := ⟨[0, 1, 7, 9, 32, 33], i23_0, [34, 35, 11, 36, 37, 38, 39, 40, 41, 42, 43, 44, 45, 4, 5, 6, 46], [0], true, res23, fun x => impll23_0 K K x.1 x.2.1 x.2.2.1 x.2.2.2.1 x.2.2.2.2.1 x.2.2.2.2.2.1, [], none⟩
theorem q23_0 (K : Nat) (rc : ByteArray → ByteArray → (List ByteArray) → (List ByteArray) → Int → Int → Option (Sum (Int × Unit) (ByteArray × Int × Int × Unit))) (x1 : ByteArray) (x2 : ByteArray) (x3 : (List ByteArray)) (x4 : (List ByteArray)) (x5 : Int) (x6 : Int) : evLoop (L23_0 K) 3 23 Tryz.f23.results.toList (loopOf 0 (codeOf Tryz.f23)) 0 [0, 1, 7, 9, 32, 33] [] i23_0 [0] true res23 (fun x => rc x.1 x.2.1 x.2.2.1 x.2.2.2.1 x.2.2.2.2.1 x.2.2.2.2.2.1) (x1, x2, x3, x4, x5, x6, ()) = implb23_0 K rc x1 x2 x3 x4 x5 x6 := by kernel_rfl
theorem lp23_0 : loopsIn (loopOf 0 (codeOf Tryz.f23)) 0 = [] := by kernel_rfl
theorem n23_0_ok (K : Nat) : LentOk Tryz.prog Tryz.f23 (loopOf 0 (codeOf Tryz.f23)) (n23_0 K) := lentOk_k (slots := [0, 1, 7, 9, 32, 33]) (ali := []) (ins := i23_0) (writes := [34, 35, 11, 36, 37, 38, 39, 40, 41, 42, 43, 44, 45, 4, 5, 6, 46]) (exits := [0]) (rets := true) (rs := res23) (d := 3) (lib23_0 K) lp23_0 trivial (by kernel_rfl) (by kernel_rfl) (by kernel_rfl) (by kernel_rfl) (by kernel_rfl) (fun k x => impll23_0 K k x.1 x.2.1 x.2.2.1 x.2.2.2.1 x.2.2.2.2.1 x.2.2.2.2.2.1) (fun _ => rfl) (fun k x => q23_0 K (impll23_0 K k) x.1 x.2.1 x.2.2.1 x.2.2.2.1 x.2.2.2.2.1 x.2.2.2.2.2.1) K
noncomputable def L23_1 (K : Nat) : Lib := mkLib ti [(19, [e19 K])] [] 23 [(0, [n23_0 K])]
theorem lib23_1 (K : Nat) : LibOk Tryz.prog (L23_1 K) := libOk_mk (ents := [(19, [e19 K])]) (bodies := []) (loops := [(0, [n23_0 K])]) order tiOk ⟨one_ent (e19_ok K), trivial⟩ trivial Tryz.func23 rfl lp23 ⟨one_lent (n23_0_ok K), trivial⟩
noncomputable def implf23 (K : Nat) (x1 : ByteArray) (x2 : ByteArray) : Option (ByteArray × Int × Int) :=
  (ob (implf19 K x1) fun y1 => (ob (implf19 K x2) fun y2 => (bif !y1.2.toList == (ByteArray.mk #[]).toList then some ((ByteArray.mk #[], (0 : Int), (11 : Int))) else (bif !y2.2.toList == (ByteArray.mk #[]).toList then some ((ByteArray.mk #[], (0 : Int), (11 : Int))) else (ob (impll23_0 K K x1 x2 y1.1 y2.1 (min (↑y1.1.length : Int) (↑y2.1.length : Int)) ((0 : Int))) fun y3 => (match y3 with | .inl y4 => (bif decide ((↑y2.1.length : Int) > (↑y1.1.length : Int)) then some ((x2, (↑y2.1.length : Int), (0 : Int))) else some ((x1, (↑y1.1.length : Int), (0 : Int)))) | .inr y4 => some ((y4.1, y4.2.1, y4.2.2.1))))))))
theorem q23 (K : Nat) (x1 : ByteArray) (x2 : ByteArray) : evFnK (α := ByteArray × Int × Int) (L23_1 K) 3 23 Tryz.f23.results.toList (codeOf Tryz.f23) ins23 res23 (fun p => (p.1.1, p.1.2.1, p.1.2.2.1)) (x1, x2, ()) = implf23 K x1 x2 := by kernel_rfl
noncomputable def e23 (K : Nat) : Ent := ⟨ins23, res23, ByteArray × Int × Int, fun x => implf23 K x.1 x.2.1, fun _ => (fun y => ((y.1, y.2.1, y.2.2, ()), (()))), false⟩
theorem e23_ok (K : Nat) : EntOk Tryz.prog 23 (e23 K) := entOk_k (ins := ins23) (rs := res23) (α := ByteArray × Int × Int) (lib23_1 K) (d := 3) Tryz.func23 rfl (by kernel_rfl) (by kernel_rfl) (by kernel_rfl) (fun x => implf23 K x.1 x.2.1) (fun p => (p.1.1, p.1.2.1, p.1.2.2.1)) (fun y => ((y.1, y.2.1, y.2.2, ()), (()))) (fun _ => rfl) (fun x => q23 K x.1 x.2.1)

/-! diaphone/station.Replay -/
abbrev ins24a : Fs := [(.dat (.sl (.int .i64)), false), (.dat (.sl (.int .i64)), false), (.dat (.pr (.sl (.arr 2 (.int .i64))) (.sl (.int .i64))), false), (.dat (.str), false)]
abbrev res24a : Sh := .cons (.dat .np) (.cons (.dat (.int .i64)) (.cons (.dat (.int .i64)) (.un)))
theorem lp24 : loopsIn (codeOf Tryz.f24) 0 = [(0, loopOf 0 (codeOf Tryz.f24))] := by kernel_rfl
noncomputable def L24a_0 (K : Nat) : Lib := mkLibR ti [(19, [e19 K]), (31, [e31a K, e31b K]), (50, [e50a K, e50b K])] [] 24 [] [] [] [] [50]
theorem lib24a_0 (K : Nat) : LibOk Tryz.prog (L24a_0 K) := libOk_mkR (ents := [(19, [e19 K]), (31, [e31a K, e31b K]), (50, [e50a K, e50b K])]) (bodies := []) (loops := []) order tiOk ⟨one_ent (e19_ok K), more_ent (e31a_ok K) (one_ent (e31b_ok K)), more_ent (e50a_ok K) (one_ent (e50b_ok K)), trivial⟩ trivial Tryz.func24 rfl lp24 ⟨no_lent, trivial⟩ (rngs := []) trivial (frz := []) (opts := []) trivial
abbrev i24a_0 : Fs := [(.box (.dat (.pr (.pr (.int Go.IntKind.i32) (.int Go.IntKind.u32)) (.pr (.sl (.int Go.IntKind.i64)) (.pr (.sl (.int Go.IntKind.i64)) (.pr (.pr (.sl (.arr 2 (.int Go.IntKind.i64))) (.sl (.int Go.IntKind.i64))) (.pr (.int Go.IntKind.i64) (.pr (.bool) (.pr (.int Go.IntKind.i64) (.pr (.int Go.IntKind.i64) (.pr (.int Go.IntKind.i64) (.pr (.int Go.IntKind.i64) (.pr (.int Go.IntKind.i64) (.pr (.int Go.IntKind.i64) (.pr (.int Go.IntKind.i64) (.pr (.int Go.IntKind.i64) (.pr (.int Go.IntKind.i64) (.pr (.int Go.IntKind.i64) (.sl (.str))))))))))))))))))), true), (.dat (.sl (.str)), false), (.dat (.sl (.str)), false), (.dat (.int Go.IntKind.i64), false), (.dat (.int Go.IntKind.i64), true)]
noncomputable def implb24a_0 (K : Nat) (rc : STN → (List ByteArray) → (List ByteArray) → Int → Int → Option (Sum (STN × Int × Unit) (Unit × Int × Int × Unit))) (x1 : STN) (x2 : (List ByteArray)) (x3 : (List ByteArray)) (x4 : Int) (x5 : Int) : Option (Sum (STN × Int × Unit) (Unit × Int × Int × Unit)) :=
  (bif decide (x5 < x4) then (if (0 : Int) ≤ x5 ∧ x5 < (↑x3.length : Int) then (ob (implf31a K x1 (x3.getD x5.toNat ByteArray.empty)) fun y1 => (bif y1.1 != (0 : Int) then some (Sum.inr ((), x5, y1.1, ())) else (rc y1.2 x2 x3 x4 (IntKind.i64.wrap (x5 + (1 : Int)))))) else none) else some (Sum.inl (x1, x5, ())))
noncomputable def impll24a_0 (K : Nat) : Nat → STN → (List ByteArray) → (List ByteArray) → Int → Int → Option (Sum (STN × Int × Unit) (Unit × Int × Int × Unit))
  | 0, _, _, _, _, _ => none
  | k + 1, x1, x2, x3, x4, x5 => implb24a_0 K (impll24a_0 K k) x1 x2 x3 x4 x5
noncomputable def n24a_0 (K : Nat) : Lent := ⟨[11, 13, 35, 36, 37], i24a_0, [38, 39, 40, 41, 15, 16, 42, 43, 44, 17, 45, 46, 47, 48, 8, 9, 10, 49], [0], true, res24a, fun x => impll24a_0 K K x.1 x.2.1 x.2.2.1 x.2.2.2.1 x.2.2.2.2.1, [], none⟩
theorem q24a_0 (K : Nat) (rc : STN → (List ByteArray) → (List ByteArray) → Int → Int → Option (Sum (STN × Int × Unit) (Unit × Int × Int × Unit))) (x1 : STN) (x2 : (List ByteArray)) (x3 : (List ByteArray)) (x4 : Int) (x5 : Int) : evLoop (L24a_0 K) 3 24 Tryz.f24.results.toList (loopOf 0 (codeOf Tryz.f24)) 0 [11, 13, 35, 36, 37] [] i24a_0 [0] true res24a (fun x => rc x.1 x.2.1 x.2.2.1 x.2.2.2.1 x.2.2.2.2.1) (x1, x2, x3, x4, x5, ()) = implb24a_0 K rc x1 x2 x3 x4 x5 := by kernel_rfl
theorem lp24a_0 : loopsIn (loopOf 0 (codeOf Tryz.f24)) 0 = [] := by kernel_rfl
theorem n24a_0_ok (K : Nat) : LentOk Tryz.prog Tryz.f24 (loopOf 0 (codeOf Tryz.f24)) (n24a_0 K) := lentOk_kR (slots := [11, 13, 35, 36, 37]) (ali := []) (ins := i24a_0) (writes := [38, 39, 40, 41, 15, 16, 42, 43, 44, 17, 45, 46, 47, 48, 8, 9, 10, 49]) (exits := [0]) (rets := true) (rs := res24a) (d := 3) (lib24a_0 K) Tryz.func24 rfl (.inl (by kernel_rfl)) lp24a_0 trivial (by kernel_rfl) (by kernel_rfl) (by kernel_rfl) (by kernel_rfl) (by kernel_rfl) (fun k x => impll24a_0 K k x.1 x.2.1 x.2.2.1 x.2.2.2.1 x.2.2.2.2.1) (fun _ => rfl) (fun k x => q24a_0 K (impll24a_0 K k) x.1 x.2.1 x.2.2.1 x.2.2.2.1 x.2.2.2.2.1) K
noncomputable def L24a_1 (K : Nat) : Lib := mkLibR ti [(19, [e19 K]), (31, [e31a K, e31b K]), (50, [e50a K, e50b K])] [] 24 [(0, [n24a_0 K])] [] [] [] [50]
theorem lib24a_1 (K : Nat) : LibOk Tryz.prog (L24a_1 K) := libOk_mkR (ents := [(19, [e19 K]), (31, [e31a K, e31b K]), (50, [e50a K, e50b K])]) (bodies := []) (loops := [(0, [n24a_0 K])]) order tiOk ⟨one_ent (e19_ok K), more_ent (e31a_ok K) (one_ent (e31b_ok K)), more_ent (e50a_ok K) (one_ent (e50b_ok K)), trivial⟩ trivial Tryz.func24 rfl lp24 ⟨one_lent (n24a_0_ok K), trivial⟩ (rngs := []) trivial (frz := []) (opts := []) trivial
noncomputable def implf24a (K : Nat) (x1 : (List Int)) (x2 : (List Int)) (x3 : BOX) (x4 : ByteArray) : Option (Unit × Int × Int) :=
  (oel (implf50a K x1 x2 x3) (ob (implf50b K x1 x2 x3) fun y1 => (bif y1.2 != (0 : Int) then some (((), (0 : Int), y1.2)) else (ob (implf19 K x4) fun y2 => (bif !y2.2.toList == (ByteArray.mk #[]).toList then some (((), (0 : Int), (11 : Int))) else (ob (impll24a_0 K K y1.1 y2.1 y2.1 ((↑y2.1.length : Int)) ((0 : Int))) fun y3 => (match y3 with | .inl y4 => none | .inr y4 => some ((y4.1, y4.2.1, y4.2.2.1)))))))) fun y5 => (bif y5.2 != (0 : Int) then some (((), (0 : Int), y5.2)) else (ob (implf19 K x4) fun y6 => (bif !y6.2.toList == (ByteArray.mk #[]).toList then some (((), (0 : Int), (11 : Int))) else none))))
theorem q24a (K : Nat) (x1 : (List Int)) (x2 : (List Int)) (x3 : BOX) (x4 : ByteArray) : evFnK (α := Unit × Int × Int) (L24a_1 K) 3 24 Tryz.f24.results.toList (codeOf Tryz.f24) ins24a res24a (fun p => (p.1.1, p.1.2.1, p.1.2.2.1)) (x1, x2, x3, x4, ()) = implf24a K x1 x2 x3 x4 := by kernel_rfl
noncomputable def e24a (K : Nat) : Ent := ⟨ins24a, res24a, Unit × Int × Int, fun x => implf24a K x.1 x.2.1 x.2.2.1 x.2.2.2.1, fun _ => (fun y => ((y.1, y.2.1, y.2.2, ()), (()))), false⟩
theorem e24a_ok (K : Nat) : EntOk Tryz.prog 24 (e24a K) := entOk_k (ins := ins24a) (rs := res24a) (α := Unit × Int × Int) (lib24a_1 K) (d := 3) Tryz.func24 rfl (by kernel_rfl) (by kernel_rfl) (by kernel_rfl) (fun x => implf24a K x.1 x.2.1 x.2.2.1 x.2.2.2.1) (fun p => (p.1.1, p.1.2.1, p.1.2.2.1)) (fun y => ((y.1, y.2.1, y.2.2, ()), (()))) (fun _ => rfl) (fun x => q24a K x.1 x.2.1 x.2.2.1 x.2.2.2.1)

abbrev ins24b : Fs := [(.dat (.sl (.int .i64)), false), (.dat (.sl (.int .i64)), false), (.dat (.pr (.sl (.arr 2 (.int .i64))) (.sl (.int .i64))), false), (.dat (.str), false)]
abbrev res24b : Sh := .cons (.box (.dat (.pr (.pr (.int .i32) (.int .u32)) (.pr (.sl (.int .i64)) (.pr (.sl (.int .i64)) (.pr (.pr (.sl (.arr 2 (.int .i64))) (.sl (.int .i64))) (.pr (.int .i64) (.pr (.bool) (.pr (.int .i64) (.pr (.int .i64) (.pr (.int .i64) (.pr (.int .i64) (.pr (.int .i64) (.pr (.int .i64) (.pr (.int .i64) (.pr (.int .i64) (.pr (.int .i64) (.pr (.int .i64) (.sl (.str)))))))))))))))))))) (.cons (.dat (.int .i64)) (.cons (.dat (.int .i64)) (.un)))
noncomputable def L24b_0 (K : Nat) : Lib := mkLibR ti [(19, [e19 K]), (31, [e31a K, e31b K]), (50, [e50a K, e50b K])] [] 24 [] [] [] [] [50]
theorem lib24b_0 (K : Nat) : LibOk Tryz.prog (L24b_0 K) := libOk_mkR (ents := [(19, [e19 K]), (31, [e31a K, e31b K]), (50, [e50a K, e50b K])]) (bodies := []) (loops := []) order tiOk ⟨one_ent (e19_ok K), more_ent (e31a_ok K) (one_ent (e31b_ok K)), more_ent (e50a_ok K) (one_ent (e50b_ok K)), trivial⟩ trivial Tryz.func24 rfl lp24 ⟨no_lent, trivial⟩ (rngs := []) trivial (frz := []) (opts := []) trivial
abbrev i24b_0 : Fs := [(.box (.dat (.pr (.pr (.int Go.IntKind.i32) (.int Go.IntKind.u32)) (.pr (.sl (.int Go.IntKind.i64)) (.pr (.sl (.int Go.IntKind.i64)) (.pr (.pr (.sl (.arr 2 (.int Go.IntKind.i64))) (.sl (.int Go.IntKind.i64))) (.pr (.int Go.IntKind.i64) (.pr (.bool) (.pr (.int Go.IntKind.i64) (.pr (.int Go.IntKind.i64) (.pr (.int Go.IntKind.i64) (.pr (.int Go.IntKind.i64) (.pr (.int Go.IntKind.i64) (.pr (.int Go.IntKind.i64) (.pr (.int Go.IntKind.i64) (.pr (.int Go.IntKind.i64) (.pr (.int Go.IntKind.i64) (.pr (.int Go.IntKind.i64) (.sl (.str))))))))))))))))))), true), (.dat (.sl (.str)), false), (.dat (.sl (.str)), false), (.dat (.int Go.IntKind.i64), false), (.dat (.int Go.IntKind.i64), true)]
noncomputable def implb24b_0 (K : Nat) (rc : STN → (List ByteArray) → (List ByteArray) → Int → Int → Option (Sum (STN × Int × Unit) (STN × Int × Int × Unit))) (x1 : STN) (x2 : (List ByteArray)) (x3 : (List ByteArray)) (x4 : Int) (x5 : Int) : Option (Sum (STN × Int × Unit) (STN × Int × Int × Unit)) :=
  (bif decide (x5 < x4) then (if (0 : Int) ≤ x5 ∧ x5 < (↑x3.length : Int) then (ob (implf31a K x1 (x3.getD x5.toNat ByteArray.empty)) fun y1 => (bif y1.1 != (0 : Int) then none else (rc y1.2 x2 x3 x4 (IntKind.i64.wrap (x5 + (1 : Int)))))) else none) else some (Sum.inl (x1, x5, ())))
noncomputable def impll24b_0 (K : Nat) : Nat → STN → (List ByteArray) → (List ByteArray) → Int → Int → Option (Sum (STN × Int × Unit) (STN × Int × Int × Unit))
  | 0, _, _, _, _, _ => none
  | k + 1, x1, x2, x3, x4, x5 => implb24b_0 K (impll24b_0 K k) x1 x2 x3 x4 x5
noncomputable def n24b_0 (K : Nat) : Lent := ⟨[11, 13, 35, 36, 37], i24b_0, [38, 39, 40, 41, 15, 16, 42, 43, 44, 17, 45, 46, 47, 48, 8, 9, 10, 49], [0], true, res24b, fun x => impll24b_0 K K x.1 x.2.1 x.2.2.1 x.2.2.2.1 x.2.2.2.2.1, [], none⟩
theorem q24b_0 (K : Nat) (rc : STN → (List ByteArray) → (List ByteArray) → Int → Int → Option (Sum (STN × Int × Unit) (STN × Int × Int × Unit))) (x1 : STN) (x2 : (List ByteArray)) (x3 : (List ByteArray)) (x4 : Int) (x5 : Int) : evLoop (L24b_0 K) 3 24 Tryz.f24.results.toList (loopOf 0 (codeOf Tryz.f24)) 0 [11, 13, 35, 36, 37] [] i24b_0 [0] true res24b (fun x => rc x.1 x.2.1 x.2.2.1 x.2.2.2.1 x.2.2.2.2.1) (x1, x2, x3, x4, x5, ()) = implb24b_0 K rc x1 x2 x3 x4 x5 := by kernel_rfl
theorem lp24b_0 : loopsIn (loopOf 0 (codeOf Tryz.f24)) 0 = [] := by kernel_rfl
theorem n24b_0_ok (K : Nat) : LentOk Tryz.prog Tryz.f24 (loopOf 0 (codeOf Tryz.f24)) (n24b_0 K) := lentOk_kR (slots := [11, 13, 35, 36, 37]) (ali := []) (ins := i24b_0) (writes := [38, 39, 40, 41, 15, 16, 42, 43, 44, 17, 45, 46, 47, 48, 8, 9, 10, 49]) (exits := [0]) (rets := true) (rs := res24b) (d := 3) (lib24b_0 K) Tryz.func24 rfl (.inl (by kernel_rfl)) lp24b_0 trivial (by kernel_rfl) (by kernel_rfl) (by kernel_rfl) (by kernel_rfl) (by kernel_rfl) (fun k x => impll24b_0 K k x.1 x.2.1 x.2.2.1 x.2.2.2.1 x.2.2.2.2.1) (fun _ => rfl) (fun k x => q24b_0 K (impll24b_0 K k) x.1 x.2.1 x.2.2.1 x.2.2.2.1 x.2.2.2.2.1) K
noncomputable def L24b_1 (K : Nat) : Lib := mkLibR ti [(19, [e19 K]), (31, [e31a K, e31b K]), (50, [e50a K, e50b K])] [] 24 [(0, [n24b_0 K])] [] [] [] [50]
theorem lib24b_1 (K : Nat) : LibOk Tryz.prog (L24b_1 K) := libOk_mkR (ents := [(19, [e19 K]), (31, [e31a K, e31b K]), (50, [e50a K, e50b K])]) (bodies := []) (loops := [(0, [n24b_0 K])]) order tiOk ⟨one_ent (e19_ok K), more_ent (e31a_ok K) (one_ent (e31b_ok K)), more_ent (e50a_ok K) (one_ent (e50b_ok K)), trivial⟩ trivial Tryz.func24 rfl lp24 ⟨one_lent (n24b_0_ok K), trivial⟩ (rngs := []) trivial (frz := []) (opts := []) trivial
noncomputable def implf24b (K : Nat) (x1 : (List Int)) (x2 : (List Int)) (x3 : BOX) (x4 : ByteArray) : Option (STN × Int × Int) :=
  (oel (implf50a K x1 x2 x3) (ob (implf50b K x1 x2 x3) fun y1 => (bif y1.2 != (0 : Int) then none else (ob (implf19 K x4) fun y2 => (bif !y2.2.toList == (ByteArray.mk #[]).toList then none else (ob (impll24b_0 K K y1.1 y2.1 y2.1 ((↑y2.1.length : Int)) ((0 : Int))) fun y3 => (match y3 with | .inl y4 => some ((y4.1, (↑y2.1.length : Int), (0 : Int))) | .inr y4 => some ((y4.1, y4.2.1, y4.2.2.1)))))))) fun y5 => (bif y5.2 != (0 : Int) then none else (ob (implf19 K x4) fun y6 => (bif !y6.2.toList == (ByteArray.mk #[]).toList then none else none))))
theorem q24b (K : Nat) (x1 : (List Int)) (x2 : (List Int)) (x3 : BOX) (x4 : ByteArray) : evFnK (α := STN × Int × Int) (L24b_1 K) 3 24 Tryz.f24.results.toList (codeOf Tryz.f24) ins24b res24b (fun p => (p.1.1, p.1.2.1, p.1.2.2.1)) (x1, x2, x3, x4, ()) = implf24b K x1 x2 x3 x4 := by kernel_rfl
noncomputable def e24b (K : Nat) : Ent := ⟨ins24b, res24b, STN × Int × Int, fun x => implf24b K x.1 x.2.1 x.2.2.1 x.2.2.2.1, fun _ => (fun y => ((y.1, y.2.1, y.2.2, ()), (()))), false⟩
theorem e24b_ok (K : Nat) : EntOk Tryz.prog 24 (e24b K) := entOk_k (ins := ins24b) (rs := res24b) (α := STN × Int × Int) (lib24b_1 K) (d := 3) Tryz.func24 rfl (by kernel_rfl) (by kernel_rfl) (by kernel_rfl) (fun x => implf24b K x.1 x.2.1 x.2.2.1 x.2.2.2.1) (fun p => (p.1.1, p.1.2.1, p.1.2.2.1)) (fun y => ((y.1, y.2.1, y.2.2, ()), (()))) (fun _ => rfl) (fun x => q24b K x.1 x.2.1 x.2.2.1 x.2.2.2.1)

/-! diaphone/diaphonelaw09.Large -/
abbrev ins25 : Fs := [(.dat (.pr (.sl (.int .i64)) (.pr (.sl (.int .i64)) (.pr (.sl (.arr 2 (.int .i64))) (.sl (.int .i64))))), false)]
abbrev res25 : Sh := .dat (.bool)
theorem lp25 : loopsIn (codeOf Tryz.f25) 0 = [] := by kernel_rfl
noncomputable def L25_0 (K : Nat) : Lib := mkLib ti [] [] 25 []
theorem lib25_0 (K : Nat) : LibOk Tryz.prog (L25_0 K) := libOk_mk (ents := []) (bodies := []) (loops := []) order tiOk trivial trivial Tryz.func25 rfl lp25 trivial
noncomputable def implf25 (K : Nat) (x1 : KIT) : Option (Bool) :=
  (bif decide ((↑x1.1.length : Int) > (100 : Int)) then some (true) else (bif decide ((↑x1.2.1.length : Int) > (50 : Int)) then some (true) else (bif decide ((↑x1.2.2.1.length : Int) > (50 : Int)) then some (true) else some (decide ((↑x1.2.2.2.length : Int) > (50 : Int))))))
theorem q25 (K : Nat) (x1 : KIT) : evFnK (α := Bool) (L25_0 K) 3 25 Tryz.f25.results.toList (codeOf Tryz.f25) ins25 res25 (fun p => p.1) (x1, ()) = implf25 K x1 := by kernel_rfl
noncomputable def e25 (K : Nat) : Ent := ⟨ins25, res25, Bool, fun x => implf25 K x.1, fun _ => (fun y => (y, (()))), false⟩
theorem e25_ok (K : Nat) : EntOk Tryz.prog 25 (e25 K) := entOk_k (ins := ins25) (rs := res25) (α := Bool) (lib25_0 K) (d := 3) Tryz.func25 rfl (by kernel_rfl) (by kernel_rfl) (by kernel_rfl) (fun x => implf25 K x.1) (fun p => p.1) (fun y => (y, (()))) (fun _ => rfl) (fun x => q25 K x.1)

/-! diaphone/diaphonelaw09.Long -/
abbrev ins26 : Fs := [(.dat (.sl (.str)), false)]
abbrev res26 : Sh := .dat (.bool)
theorem lp26 : loopsIn (codeOf Tryz.f26) 0 = [(0, loopOf 0 (codeOf Tryz.f26))] := by kernel_rfl
noncomputable def L26_0 (K : Nat) : Lib := mkLib ti [] [] 26 []
theorem lib26_0 (K : Nat) : LibOk Tryz.prog (L26_0 K) := libOk_mk (ents := []) (bodies := []) (loops := []) order tiOk trivial trivial Tryz.func26 rfl lp26 ⟨no_lent, trivial⟩
abbrev i26_0 : Fs := [(.dat (.sl (.str)), false), (.dat (.int Go.IntKind.i64), true)]
noncomputable def implb26_0 (K : Nat) (rc : (List ByteArray) → Int → Option (Sum (Int × Unit) Bool)) (x1 : (List ByteArray)) (x2 : Int) : Option (Sum (Int × Unit) Bool) :=
  (bif decide (x2 < (↑x1.length : Int)) then (if (0 : Int) ≤ x2 ∧ x2 < (↑x1.length : Int) then (bif decide ((↑(x1.getD x2.toNat ByteArray.empty).size : Int) > (400 : Int)) then some (Sum.inr true) else (rc x1 (IntKind.i64.wrap (x2 + (1 : Int))))) else none) else some (Sum.inl (x2, ())))
noncomputable def impll26_0 (K : Nat) : Nat → (List ByteArray) → Int → Option (Sum (Int × Unit) Bool)
  | 0, _, _ => none
  | k + 1, x1, x2 => implb26_0 K (impll26_0 K k) x1 x2
noncomputable def n26_0 (K : Nat) : Lent := ⟨[0, 3], i26_0, [4, 5, 6, 7, 10, 11, 12, 13, 14, 15, 2, 8, 9], [0], true, res26, fun x => impll26_0 K K x.1 x.2.1, [], none⟩
theorem q26_0 (K : Nat) (rc : (List ByteArray) → Int → Option (Sum (Int × Unit) Bool)) (x1 : (List ByteArray)) (x2 : Int) : evLoop (L26_0 K) 3 26 Tryz.f26.results.toList (loopOf 0 (codeOf Tryz.f26)) 0 [0, 3] [] i26_0 [0] true res26 (fun x => rc x.1 x.2.1) (x1, x2, ()) = implb26_0 K rc x1 x2 := by kernel_rfl
theorem lp26_0 : loopsIn (loopOf 0 (codeOf Tryz.f26)) 0 = [] := by kernel_rfl
theorem n26_0_ok (K : Nat) : LentOk Tryz.prog Tryz.f26 (loopOf 0 (codeOf Tryz.f26)) (n26_0 K) := lentOk_k (slots := [0, 3]) (ali := []) (ins := i26_0) (writes := [4, 5, 6, 7, 10, 11, 12, 13, 14, 15, 2, 8, 9]) (exits := [0]) (rets := true) (rs := res26) (d := 3) (lib26_0 K) lp26_0 trivial (by kernel_rfl) (by kernel_rfl) (by kernel_rfl) (by kernel_rfl) (by kernel_rfl) (fun k x => impll26_0 K k x.1 x.2.1) (fun _ => rfl) (fun k x => q26_0 K (impll26_0 K k) x.1 x.2.1) K
noncomputable def L26_1 (K : Nat) : Lib := mkLib ti [] [] 26 [(0, [n26_0 K])]
theorem lib26_1 (K : Nat) : LibOk Tryz.prog (L26_1 K) := libOk_mk (ents := []) (bodies := []) (loops := [(0, [n26_0 K])]) order tiOk trivial trivial Tryz.func26 rfl lp26 ⟨one_lent (n26_0_ok K), trivial⟩
noncomputable def implf26 (K : Nat) (x1 : (List ByteArray)) : Option (Bool) :=
  (ob (impll26_0 K K x1 ((0 : Int))) fun y1 => (match y1 with | .inl y2 => some (decide ((↑x1.length : Int) > (300 : Int))) | .inr y2 => some (y2)))
theorem q26 (K : Nat) (x1 : (List ByteArray)) : evFnK (α := Bool) (L26_1 K) 3 26 Tryz.f26.results.toList (codeOf Tryz.f26) ins26 res26 (fun p => p.1) (x1, ()) = implf26 K x1 := by kernel_rfl
noncomputable def e26 (K : Nat) : Ent := ⟨ins26, res26, Bool, fun x => implf26 K x.1, fun _ => (fun y => (y, (()))), false⟩
theorem e26_ok (K : Nat) : EntOk Tryz.prog 26 (e26 K) := entOk_k (ins := ins26) (rs := res26) (α := Bool) (lib26_1 K) (d := 3) Tryz.func26 rfl (by kernel_rfl) (by kernel_rfl) (by kernel_rfl) (fun x => implf26 K x.1) (fun p => p.1) (fun y => (y, (()))) (fun _ => rfl) (fun x => q26 K x.1)

/-! (*diaphone/station.Station).Stock -/
abbrev ins33a : Fs := [(.box (.dat (.pr (.pr (.int .i32) (.int .u32)) (.pr (.sl (.int .i64)) (.pr (.sl (.int .i64)) (.pr (.pr (.sl (.arr 2 (.int .i64))) (.sl (.int .i64))) (.pr (.int .i64) (.pr (.bool) (.pr (.int .i64) (.pr (.int .i64) (.pr (.int .i64) (.pr (.int .i64) (.pr (.int .i64) (.pr (.int .i64) (.pr (.int .i64) (.pr (.int .i64) (.pr (.int .i64) (.pr (.int .i64) (.sl (.str))))))))))))))))))), false)]
abbrev res33a : Sh := .dat (.int .i64)
theorem lp33 : loopsIn (codeOf Tryz.f33) 0 = [] := by kernel_rfl
noncomputable def L33a_0 (K : Nat) : Lib := mkLib ti [(68, [e68a K, e68b K])] [] 33 []
theorem lib33a_0 (K : Nat) : LibOk Tryz.prog (L33a_0 K) := libOk_mk (ents := [(68, [e68a K, e68b K])]) (bodies := []) (loops := []) order tiOk ⟨more_ent (e68a_ok K) (one_ent (e68b_ok K)), trivial⟩ trivial Tryz.func33 rfl lp33 trivial
noncomputable def implf33a (K : Nat) (x1 : STN) : Option (Int) :=
  (ob (implf68a K x1) fun y1 => some (y1.2.2.2.2.1))
theorem q33a (K : Nat) (x1 : STN) : evFnK (α := Int) (L33a_0 K) 3 33 Tryz.f33.results.toList (codeOf Tryz.f33) ins33a res33a (fun p => p.1) (x1, ()) = implf33a K x1 := by kernel_rfl
noncomputable def e33a (K : Nat) : Ent := ⟨ins33a, res33a, Int, fun x => implf33a K x.1, fun _ => (fun y => (y, (()))), false⟩
theorem e33a_ok (K : Nat) : EntOk Tryz.prog 33 (e33a K) := entOk_k (ins := ins33a) (rs := res33a) (α := Int) (lib33a_0 K) (d := 3) Tryz.func33 rfl (by kernel_rfl) (by kernel_rfl) (by kernel_rfl) (fun x => implf33a K x.1) (fun p => p.1) (fun y => (y, (()))) (fun _ => rfl) (fun x => q33a K x.1)

abbrev ins33b : Fs := [(.dat .np, false)]
abbrev res33b : Sh := .dat (.int .i64)
noncomputable def L33b_0 (K : Nat) : Lib := mkLib ti [(68, [e68a K, e68b K])] [] 33 []
theorem lib33b_0 (K : Nat) : LibOk Tryz.prog (L33b_0 K) := libOk_mk (ents := [(68, [e68a K, e68b K])]) (bodies := []) (loops := []) order tiOk ⟨more_ent (e68a_ok K) (one_ent (e68b_ok K)), trivial⟩ trivial Tryz.func33 rfl lp33 trivial
noncomputable def implf33b (K : Nat) (x1 : Unit) : Option (Int) :=
  (ob (implf68b K x1) fun y1 => some (y1.2.2.2.2.1))
theorem q33b (K : Nat) (x1 : Unit) : evFnK (α := Int) (L33b_0 K) 3 33 Tryz.f33.results.toList (codeOf Tryz.f33) ins33b res33b (fun p => p.1) (x1, ()) = implf33b K x1 := by kernel_rfl
noncomputable def e33b (K : Nat) : Ent := ⟨ins33b, res33b, Int, fun x => implf33b K x.1, fun _ => (fun y => (y, (()))), false⟩
theorem e33b_ok (K : Nat) : EntOk Tryz.prog 33 (e33b K) := entOk_k (ins := ins33b) (rs := res33b) (α := Int) (lib33b_0 K) (d := 3) Tryz.func33 rfl (by kernel_rfl) (by kernel_rfl) (by kernel_rfl) (fun x => implf33b K x.1) (fun p => p.1) (fun y => (y, (()))) (fun _ => rfl) (fun x => q33b K x.1)

/-! (*diaphone/station.Station).Air -/
abbrev ins37a : Fs := [(.box (.dat (.pr (.pr (.int .i32) (.int .u32)) (.pr (.sl (.int .i64)) (.pr (.sl (.int .i64)) (.pr (.pr (.sl (.arr 2 (.int .i64))) (.sl (.int .i64))) (.pr (.int .i64) (.pr (.bool) (.pr (.int .i64) (.pr (.int .i64) (.pr (.int .i64) (.pr (.int .i64) (.pr (.int .i64) (.pr (.int .i64) (.pr (.int .i64) (.pr (.int .i64) (.pr (.int .i64) (.pr (.int .i64) (.sl (.str))))))))))))))))))), false)]
abbrev res37a : Sh := .dat (.int .i64)
theorem lp37 : loopsIn (codeOf Tryz.f37) 0 = [] := by kernel_rfl
noncomputable def L37a_0 (K : Nat) : Lib := mkLib ti [(68, [e68a K, e68b K])] [] 37 []
theorem lib37a_0 (K : Nat) : LibOk Tryz.prog (L37a_0 K) := libOk_mk (ents := [(68, [e68a K, e68b K])]) (bodies := []) (loops := []) order tiOk ⟨more_ent (e68a_ok K) (one_ent (e68b_ok K)), trivial⟩ trivial Tryz.func37 rfl lp37 trivial
noncomputable def implf37a (K : Nat) (x1 : STN) : Option (Int) :=
  (ob (implf68a K x1) fun y1 => some (y1.2.2.2.1))
theorem q37a (K : Nat) (x1 : STN) : evFnK (α := Int) (L37a_0 K) 3 37 Tryz.f37.results.toList (codeOf Tryz.f37) ins37a res37a (fun p => p.1) (x1, ()) = implf37a K x1 := by kernel_rfl
noncomputable def e37a (K : Nat) : Ent := ⟨ins37a, res37a, Int, fun x => implf37a K x.1, fun _ => (fun y => (y, (()))), false⟩
theorem e37a_ok (K : Nat) : EntOk Tryz.prog 37 (e37a K) := entOk_k (ins := ins37a) (rs := res37a) (α := Int) (lib37a_0 K) (d := 3) Tryz.func37 rfl (by kernel_rfl) (by kernel_rfl) (by kernel_rfl) (fun x => implf37a K x.1) (fun p => p.1) (fun y => (y, (()))) (fun _ => rfl) (fun x => q37a K x.1)

abbrev ins37b : Fs := [(.dat .np, false)]
abbrev res37b : Sh := .dat (.int .i64)
noncomputable def L37b_0 (K : Nat) : Lib := mkLib ti [(68, [e68a K, e68b K])] [] 37 []
theorem lib37b_0 (K : Nat) : LibOk Tryz.prog (L37b_0 K) := libOk_mk (ents := [(68, [e68a K, e68b K])]) (bodies := []) (loops := []) order tiOk ⟨more_ent (e68a_ok K) (one_ent (e68b_ok K)), trivial⟩ trivial Tryz.func37 rfl lp37 trivial
noncomputable def implf37b (K : Nat) (x1 : Unit) : Option (Int) :=
  (ob (implf68b K x1) fun y1 => some (y1.2.2.2.1))
theorem q37b (K : Nat) (x1 : Unit) : evFnK (α := Int) (L37b_0 K) 3 37 Tryz.f37.results.toList (codeOf Tryz.f37) ins37b res37b (fun p => p.1) (x1, ()) = implf37b K x1 := by kernel_rfl
noncomputable def e37b (K : Nat) : Ent := ⟨ins37b, res37b, Int, fun x => implf37b K x.1, fun _ => (fun y => (y, (()))), false⟩
theorem e37b_ok (K : Nat) : EntOk Tryz.prog 37 (e37b K) := entOk_k (ins := ins37b) (rs := res37b) (α := Int) (lib37b_0 K) (d := 3) Tryz.func37 rfl (by kernel_rfl) (by kernel_rfl) (by kernel_rfl) (fun x => implf37b K x.1) (fun p => p.1) (fun y => (y, (()))) (fun _ => rfl) (fun x => q37b K x.1)

/-! (*diaphone/station.Station).Sounded -/
abbrev ins38a : Fs := [(.box (.dat (.pr (.pr (.int .i32) (.int .u32)) (.pr (.sl (.int .i64)) (.pr (.sl (.int .i64)) (.pr (.pr (.sl (.arr 2 (.int .i64))) (.sl (.int .i64))) (.pr (.int .i64) (.pr (.bool) (.pr (.int .i64) (.pr (.int .i64) (.pr (.int .i64) (.pr (.int .i64) (.pr (.int .i64) (.pr (.int .i64) (.pr (.int .i64) (.pr (.int .i64) (.pr (.int .i64) (.pr (.int .i64) (.sl (.str))))))))))))))))))), false)]
abbrev res38a : Sh := .dat (.int .i64)
theorem lp38 : loopsIn (codeOf Tryz.f38) 0 = [] := by kernel_rfl
noncomputable def L38a_0 (K : Nat) : Lib := mkLib ti [(68, [e68a K, e68b K])] [] 38 []
theorem lib38a_0 (K : Nat) : LibOk Tryz.prog (L38a_0 K) := libOk_mk (ents := [(68, [e68a K, e68b K])]) (bodies := []) (loops := []) order tiOk ⟨more_ent (e68a_ok K) (one_ent (e68b_ok K)), trivial⟩ trivial Tryz.func38 rfl lp38 trivial
noncomputable def implf38a (K : Nat) (x1 : STN) : Option (Int) :=
  (ob (implf68a K x1) fun y1 => some (y1.2.2.2.2.2.2.1))
theorem q38a (K : Nat) (x1 : STN) : evFnK (α := Int) (L38a_0 K) 3 38 Tryz.f38.results.toList (codeOf Tryz.f38) ins38a res38a (fun p => p.1) (x1, ()) = implf38a K x1 := by kernel_rfl
noncomputable def e38a (K : Nat) : Ent := ⟨ins38a, res38a, Int, fun x => implf38a K x.1, fun _ => (fun y => (y, (()))), false⟩
theorem e38a_ok (K : Nat) : EntOk Tryz.prog 38 (e38a K) := entOk_k (ins := ins38a) (rs := res38a) (α := Int) (lib38a_0 K) (d := 3) Tryz.func38 rfl (by kernel_rfl) (by kernel_rfl) (by kernel_rfl) (fun x => implf38a K x.1) (fun p => p.1) (fun y => (y, (()))) (fun _ => rfl) (fun x => q38a K x.1)

abbrev ins38b : Fs := [(.dat .np, false)]
abbrev res38b : Sh := .dat (.int .i64)
noncomputable def L38b_0 (K : Nat) : Lib := mkLib ti [(68, [e68a K, e68b K])] [] 38 []
theorem lib38b_0 (K : Nat) : LibOk Tryz.prog (L38b_0 K) := libOk_mk (ents := [(68, [e68a K, e68b K])]) (bodies := []) (loops := []) order tiOk ⟨more_ent (e68a_ok K) (one_ent (e68b_ok K)), trivial⟩ trivial Tryz.func38 rfl lp38 trivial
noncomputable def implf38b (K : Nat) (x1 : Unit) : Option (Int) :=
  (ob (implf68b K x1) fun y1 => some (y1.2.2.2.2.2.2.1))
theorem q38b (K : Nat) (x1 : Unit) : evFnK (α := Int) (L38b_0 K) 3 38 Tryz.f38.results.toList (codeOf Tryz.f38) ins38b res38b (fun p => p.1) (x1, ()) = implf38b K x1 := by kernel_rfl
noncomputable def e38b (K : Nat) : Ent := ⟨ins38b, res38b, Int, fun x => implf38b K x.1, fun _ => (fun y => (y, (()))), false⟩
theorem e38b_ok (K : Nat) : EntOk Tryz.prog 38 (e38b K) := entOk_k (ins := ins38b) (rs := res38b) (α := Int) (lib38b_0 K) (d := 3) Tryz.func38 rfl (by kernel_rfl) (by kernel_rfl) (by kernel_rfl) (fun x => implf38b K x.1) (fun p => p.1) (fun y => (y, (()))) (fun _ => rfl) (fun x => q38b K x.1)

/-! (*diaphone/station.Station).Missed -/
abbrev ins59a : Fs := [(.box (.dat (.pr (.pr (.int .i32) (.int .u32)) (.pr (.sl (.int .i64)) (.pr (.sl (.int .i64)) (.pr (.pr (.sl (.arr 2 (.int .i64))) (.sl (.int .i64))) (.pr (.int .i64) (.pr (.bool) (.pr (.int .i64) (.pr (.int .i64) (.pr (.int .i64) (.pr (.int .i64) (.pr (.int .i64) (.pr (.int .i64) (.pr (.int .i64) (.pr (.int .i64) (.pr (.int .i64) (.pr (.int .i64) (.sl (.str))))))))))))))))))), false)]
abbrev res59a : Sh := .dat (.int .i64)
theorem lp59 : loopsIn (codeOf Tryz.f59) 0 = [] := by kernel_rfl
noncomputable def L59a_0 (K : Nat) : Lib := mkLib ti [(68, [e68a K, e68b K])] [] 59 []
theorem lib59a_0 (K : Nat) : LibOk Tryz.prog (L59a_0 K) := libOk_mk (ents := [(68, [e68a K, e68b K])]) (bodies := []) (loops := []) order tiOk ⟨more_ent (e68a_ok K) (one_ent (e68b_ok K)), trivial⟩ trivial Tryz.func59 rfl lp59 trivial
noncomputable def implf59a (K : Nat) (x1 : STN) : Option (Int) :=
  (ob (implf68a K x1) fun y1 => some (y1.2.2.2.2.2.2.2.1))
theorem q59a (K : Nat) (x1 : STN) : evFnK (α := Int) (L59a_0 K) 3 59 Tryz.f59.results.toList (codeOf Tryz.f59) ins59a res59a (fun p => p.1) (x1, ()) = implf59a K x1 := by kernel_rfl
noncomputable def e59a (K : Nat) : Ent := ⟨ins59a, res59a, Int, fun x => implf59a K x.1, fun _ => (fun y => (y, (()))), false⟩
theorem e59a_ok (K : Nat) : EntOk Tryz.prog 59 (e59a K) := entOk_k (ins := ins59a) (rs := res59a) (α := Int) (lib59a_0 K) (d := 3) Tryz.func59 rfl (by kernel_rfl) (by kernel_rfl) (by kernel_rfl) (fun x => implf59a K x.1) (fun p => p.1) (fun y => (y, (()))) (fun _ => rfl) (fun x => q59a K x.1)

abbrev ins59b : Fs := [(.dat .np, false)]
abbrev res59b : Sh := .dat (.int .i64)
noncomputable def L59b_0 (K : Nat) : Lib := mkLib ti [(68, [e68a K, e68b K])] [] 59 []
theorem lib59b_0 (K : Nat) : LibOk Tryz.prog (L59b_0 K) := libOk_mk (ents := [(68, [e68a K, e68b K])]) (bodies := []) (loops := []) order tiOk ⟨more_ent (e68a_ok K) (one_ent (e68b_ok K)), trivial⟩ trivial Tryz.func59 rfl lp59 trivial
noncomputable def implf59b (K : Nat) (x1 : Unit) : Option (Int) :=
  (ob (implf68b K x1) fun y1 => some (y1.2.2.2.2.2.2.2.1))
theorem q59b (K : Nat) (x1 : Unit) : evFnK (α := Int) (L59b_0 K) 3 59 Tryz.f59.results.toList (codeOf Tryz.f59) ins59b res59b (fun p => p.1) (x1, ()) = implf59b K x1 := by kernel_rfl
noncomputable def e59b (K : Nat) : Ent := ⟨ins59b, res59b, Int, fun x => implf59b K x.1, fun _ => (fun y => (y, (()))), false⟩
theorem e59b_ok (K : Nat) : EntOk Tryz.prog 59 (e59b K) := entOk_k (ins := ins59b) (rs := res59b) (α := Int) (lib59b_0 K) (d := 3) Tryz.func59 rfl (by kernel_rfl) (by kernel_rfl) (by kernel_rfl) (fun x => implf59b K x.1) (fun p => p.1) (fun y => (y, (()))) (fun _ => rfl) (fun x => q59b K x.1)

/-! (*diaphone/station.Station).Fired -/
abbrev ins34a : Fs := [(.box (.dat (.pr (.pr (.int .i32) (.int .u32)) (.pr (.sl (.int .i64)) (.pr (.sl (.int .i64)) (.pr (.pr (.sl (.arr 2 (.int .i64))) (.sl (.int .i64))) (.pr (.int .i64) (.pr (.bool) (.pr (.int .i64) (.pr (.int .i64) (.pr (.int .i64) (.pr (.int .i64) (.pr (.int .i64) (.pr (.int .i64) (.pr (.int .i64) (.pr (.int .i64) (.pr (.int .i64) (.pr (.int .i64) (.sl (.str))))))))))))))))))), false)]
abbrev res34a : Sh := .cons (.dat (.int .i64)) (.cons (.dat (.int .i64)) (.un))
theorem lp34 : loopsIn (codeOf Tryz.f34) 0 = [] := by kernel_rfl
noncomputable def L34a_0 (K : Nat) : Lib := mkLib ti [(68, [e68a K, e68b K])] [] 34 []
theorem lib34a_0 (K : Nat) : LibOk Tryz.prog (L34a_0 K) := libOk_mk (ents := [(68, [e68a K, e68b K])]) (bodies := []) (loops := []) order tiOk ⟨more_ent (e68a_ok K) (one_ent (e68b_ok K)), trivial⟩ trivial Tryz.func34 rfl lp34 trivial
noncomputable def implf34a (K : Nat) (x1 : STN) : Option (Int × Int) :=
  (ob (implf68a K x1) fun y1 => some ((y1.2.2.2.2.2.2.2.2.1, y1.2.2.2.2.2.2.2.2.2.1)))
theorem q34a (K : Nat) (x1 : STN) : evFnK (α := Int × Int) (L34a_0 K) 3 34 Tryz.f34.results.toList (codeOf Tryz.f34) ins34a res34a (fun p => (p.1.1, p.1.2.1)) (x1, ()) = implf34a K x1 := by kernel_rfl
noncomputable def e34a (K : Nat) : Ent := ⟨ins34a, res34a, Int × Int, fun x => implf34a K x.1, fun _ => (fun y => ((y.1, y.2, ()), (()))), false⟩
theorem e34a_ok (K : Nat) : EntOk Tryz.prog 34 (e34a K) := entOk_k (ins := ins34a) (rs := res34a) (α := Int × Int) (lib34a_0 K) (d := 3) Tryz.func34 rfl (by kernel_rfl) (by kernel_rfl) (by kernel_rfl) (fun x => implf34a K x.1) (fun p => (p.1.1, p.1.2.1)) (fun y => ((y.1, y.2, ()), (()))) (fun _ => rfl) (fun x => q34a K x.1)

abbrev ins34b : Fs := [(.dat .np, false)]
abbrev res34b : Sh := .cons (.dat (.int .i64)) (.cons (.dat (.int .i64)) (.un))
noncomputable def L34b_0 (K : Nat) : Lib := mkLib ti [(68, [e68a K, e68b K])] [] 34 []
theorem lib34b_0 (K : Nat) : LibOk Tryz.prog (L34b_0 K) := libOk_mk (ents := [(68, [e68a K, e68b K])]) (bodies := []) (loops := []) order tiOk ⟨more_ent (e68a_ok K) (one_ent (e68b_ok K)), trivial⟩ trivial Tryz.func34 rfl lp34 trivial
noncomputable def implf34b (K : Nat) (x1 : Unit) : Option (Int × Int) :=
  (ob (implf68b K x1) fun y1 => some ((y1.2.2.2.2.2.2.2.2.1, y1.2.2.2.2.2.2.2.2.2.1)))
theorem q34b (K : Nat) (x1 : Unit) : evFnK (α := Int × Int) (L34b_0 K) 3 34 Tryz.f34.results.toList (codeOf Tryz.f34) ins34b res34b (fun p => (p.1.1, p.1.2.1)) (x1, ()) = implf34b K x1 := by kernel_rfl
noncomputable def e34b (K : Nat) : Ent := ⟨ins34b, res34b, Int × Int, fun x => implf34b K x.1, fun _ => (fun y => ((y.1, y.2, ()), (()))), false⟩
theorem e34b_ok (K : Nat) : EntOk Tryz.prog 34 (e34b K) := entOk_k (ins := ins34b) (rs := res34b) (α := Int × Int) (lib34b_0 K) (d := 3) Tryz.func34 rfl (by kernel_rfl) (by kernel_rfl) (by kernel_rfl) (fun x => implf34b K x.1) (fun p => (p.1.1, p.1.2.1)) (fun y => ((y.1, y.2, ()), (()))) (fun _ => rfl) (fun x => q34b K x.1)

end Go.Proofs.YtbpjodikknbcoaaGreatDoor
