/- What the functions compute: printed by a program of this claim's author. -/
import Derived.Test.YtdgibokmaannjaaF1
set_option maxRecDepth 100000
set_option linter.unusedVariables false
set_option linter.unusedSimpArgs false
namespace Go.Proofs.Ytdgibokmaannjaa
open Go Go.Pv

/-! diaphone/echo.search -/
abbrev ins111 : Fs := [(.dat (.sl (.int .i64)), false), (.dat (.sl (.int .i64)), false), (.fn 96 (.cons (.box (.own (.sl (.int .i64)))) .un), true)]
abbrev res111 : Sh := .nix
noncomputable def e111r (K : Nat) (rs : (List Int) → (List Int) → ((List (List Int)) × Unit) → Option (((List (List Int)) × Unit))) : Ent := ⟨ins111, res111, ((List (List Int)) × Unit), fun x => rs x.1 x.2.1 x.2.2.1, fun _ => (fun y => ((), (y, ()))), false⟩
theorem lp111 : loopsIn (codeOf Try.f111) 0 = [(0, loopOf 0 (codeOf Try.f111)), (2, loopOf 2 (codeOf Try.f111))] := by kernel_rfl
noncomputable def L111_0 (K : Nat) (rs : (List Int) → (List Int) → ((List (List Int)) × Unit) → Option (((List (List Int)) × Unit))) : Lib := mkLib ti [(83, [e83 K]), (84, [e84 K]), (86, [e86 K]), (96, [e96 K]), (126, [e126 K]), (111, [e111r K rs])] [] 111 []
theorem lib111_0 (K : Nat) (rs : (List Int) → (List Int) → ((List (List Int)) × Unit) → Option (((List (List Int)) × Unit))) (hrs : EntOk Try.prog 111 (e111r K rs)) : LibOk Try.prog (L111_0 K rs) := libOk_mk (ents := [(83, [e83 K]), (84, [e84 K]), (86, [e86 K]), (96, [e96 K]), (126, [e126 K]), (111, [e111r K rs])]) (bodies := []) (loops := []) order tiOk ⟨one_ent (e83_ok K), one_ent (e84_ok K), one_ent (e86_ok K), one_ent (e96_ok K), one_ent (e126_ok K), one_ent hrs, trivial⟩ trivial Try.func111 rfl lp111 ⟨no_lent, no_lent, trivial⟩
abbrev i111_0 : Fs := [(.dat (.sl (.int Go.IntKind.i64)), false), (.dat (.sl (.int Go.IntKind.i64)), false), (.fn 96 (.cons (.box (.own (.sl (.int Go.IntKind.i64)))) (.un)), true), (.own (.int Go.IntKind.i64), false), (.dat (.int Go.IntKind.i64), false), (.dat (.int Go.IntKind.i64), true)]
abbrev i111_2 : Fs := [(.dat (.sl (.int Go.IntKind.i64)), false), (.dat (.sl (.int Go.IntKind.i64)), false), (.fn 96 (.cons (.box (.own (.sl (.int Go.IntKind.i64)))) (.un)), true), (.dat (.int Go.IntKind.i64), false), (.dat (.int Go.IntKind.i64), false), (.own (.int .i64), true), (.own (.int Go.IntKind.i64), false), (.dat (.int Go.IntKind.i64), false), (.dat (.int Go.IntKind.i64), false), (.dat (.sl (.int Go.IntKind.i64)), false), (.dat (.int Go.IntKind.i64), false), (.dat (.int Go.IntKind.i64), true)]
noncomputable def implb111_2 (K : Nat) (rs : (List Int) → (List Int) → ((List (List Int)) × Unit) → Option (((List (List Int)) × Unit))) (rc : (List Int) → (List Int) → ((List (List Int)) × Unit) → Int → Int → (List Int) → (List Int) → Int → Int → (List Int) → Int → Int → Option (((List (List Int)) × Unit) × (List Int) × Int × Unit)) (x1 : (List Int)) (x2 : (List Int)) (x3 : ((List (List Int)) × Unit)) (x4 : Int) (x5 : Int) (x6 : (List Int)) (x7 : (List Int)) (x8 : Int) (x9 : Int) (x10 : (List Int)) (x11 : Int) (x12 : Int) : Option (((List (List Int)) × Unit) × (List Int) × Int × Unit) :=
  (bif decide (x12 < x11) then (if (0 : Int) ≤ x12 ∧ x12 < (↑x10.length : Int) then (if (x6.length + ((List.replicate 1 ((0 : Int))).set 0 (max (IntKind.i64.wrap (x4 - x10.getD x12.toNat ((0 : Int)))) (IntKind.i64.wrap (x10.getD x12.toNat ((0 : Int)) - x4)))).length) * 8 ≤ 140737488355328 then (rc x1 x2 (x3.1, ()) x4 x5 (x6 ++ (List.replicate 1 ((0 : Int))).set 0 (max (IntKind.i64.wrap (x4 - x10.getD x12.toNat ((0 : Int)))) (IntKind.i64.wrap (x10.getD x12.toNat ((0 : Int)) - x4)))) x7 x8 x9 x10 x11 (IntKind.i64.wrap (x12 + (1 : Int)))) else none) else none) else some (((x3.1, ()), x6, x12, ())))
noncomputable def impll111_2 (K : Nat) (rs : (List Int) → (List Int) → ((List (List Int)) × Unit) → Option (((List (List Int)) × Unit))) : Nat → (List Int) → (List Int) → ((List (List Int)) × Unit) → Int → Int → (List Int) → (List Int) → Int → Int → (List Int) → Int → Int → Option (((List (List Int)) × Unit) × (List Int) × Int × Unit)
  | 0, _, _, _, _, _, _, _, _, _, _, _, _ => none
  | k + 1, x1, x2, x3, x4, x5, x6, x7, x8, x9, x10, x11, x12 => implb111_2 K rs (impll111_2 K rs k) x1 x2 x3 x4 x5 x6 x7 x8 x9 x10 x11 x12
noncomputable def n111_2 (K : Nat) (rs : (List Int) → (List Int) → ((List (List Int)) × Unit) → Option (((List (List Int)) × Unit))) : Lent := ⟨[0, 1, 2, 8, 9, 11, 37, 38, 39, 60, 61, 62], i111_2, [63, 64, 65, 13, 66, 67, 68, 69, 70, 71, 72, 73, 74, 75, 76], [2], false, res111, fun x => impll111_2 K rs K x.1 x.2.1 x.2.2.1 x.2.2.2.1 x.2.2.2.2.1 x.2.2.2.2.2.1 x.2.2.2.2.2.2.1 x.2.2.2.2.2.2.2.1 x.2.2.2.2.2.2.2.2.1 x.2.2.2.2.2.2.2.2.2.1 x.2.2.2.2.2.2.2.2.2.2.1 x.2.2.2.2.2.2.2.2.2.2.2.1, [], none⟩
theorem q111_2 (K : Nat) (rs : (List Int) → (List Int) → ((List (List Int)) × Unit) → Option (((List (List Int)) × Unit))) (rc : (List Int) → (List Int) → ((List (List Int)) × Unit) → Int → Int → (List Int) → (List Int) → Int → Int → (List Int) → Int → Int → Option (((List (List Int)) × Unit) × (List Int) × Int × Unit)) (x1 : (List Int)) (x2 : (List Int)) (x3 : ((List (List Int)) × Unit)) (x4 : Int) (x5 : Int) (x6 : (List Int)) (x7 : (List Int)) (x8 : Int) (x9 : Int) (x10 : (List Int)) (x11 : Int) (x12 : Int) : evLoop (L111_0 K rs) 3 111 Try.f111.results.toList (loopOf 2 (codeOf Try.f111)) 2 [0, 1, 2, 8, 9, 11, 37, 38, 39, 60, 61, 62] [] i111_2 [2] false res111 (fun x => rc x.1 x.2.1 x.2.2.1 x.2.2.2.1 x.2.2.2.2.1 x.2.2.2.2.2.1 x.2.2.2.2.2.2.1 x.2.2.2.2.2.2.2.1 x.2.2.2.2.2.2.2.2.1 x.2.2.2.2.2.2.2.2.2.1 x.2.2.2.2.2.2.2.2.2.2.1 x.2.2.2.2.2.2.2.2.2.2.2.1) (x1, x2, x3, x4, x5, x6, x7, x8, x9, x10, x11, x12, ()) = implb111_2 K rs rc x1 x2 x3 x4 x5 x6 x7 x8 x9 x10 x11 x12 := by kernel_rfl
theorem lp111_2 : loopsIn (loopOf 2 (codeOf Try.f111)) 2 = [] := by kernel_rfl
theorem n111_2_ok (K : Nat) (rs : (List Int) → (List Int) → ((List (List Int)) × Unit) → Option (((List (List Int)) × Unit))) (hrs : EntOk Try.prog 111 (e111r K rs)) : LentOk Try.prog Try.f111 (loopOf 2 (codeOf Try.f111)) (n111_2 K rs) := lentOk_k (slots := [0, 1, 2, 8, 9, 11, 37, 38, 39, 60, 61, 62]) (ali := []) (ins := i111_2) (writes := [63, 64, 65, 13, 66, 67, 68, 69, 70, 71, 72, 73, 74, 75, 76]) (exits := [2]) (rets := false) (rs := res111) (d := 3) (lib111_0 K rs hrs) lp111_2 trivial (by kernel_rfl) (by kernel_rfl) (by kernel_rfl) (by kernel_rfl) (by kernel_rfl) (fun k x => impll111_2 K rs k x.1 x.2.1 x.2.2.1 x.2.2.2.1 x.2.2.2.2.1 x.2.2.2.2.2.1 x.2.2.2.2.2.2.1 x.2.2.2.2.2.2.2.1 x.2.2.2.2.2.2.2.2.1 x.2.2.2.2.2.2.2.2.2.1 x.2.2.2.2.2.2.2.2.2.2.1 x.2.2.2.2.2.2.2.2.2.2.2.1) (fun _ => rfl) (fun k x => q111_2 K rs (impll111_2 K rs k) x.1 x.2.1 x.2.2.1 x.2.2.2.1 x.2.2.2.2.1 x.2.2.2.2.2.1 x.2.2.2.2.2.2.1 x.2.2.2.2.2.2.2.1 x.2.2.2.2.2.2.2.2.1 x.2.2.2.2.2.2.2.2.2.1 x.2.2.2.2.2.2.2.2.2.2.1 x.2.2.2.2.2.2.2.2.2.2.2.1) K
noncomputable def L111_1 (K : Nat) (rs : (List Int) → (List Int) → ((List (List Int)) × Unit) → Option (((List (List Int)) × Unit))) : Lib := mkLib ti [(83, [e83 K]), (84, [e84 K]), (86, [e86 K]), (96, [e96 K]), (126, [e126 K]), (111, [e111r K rs])] [] 111 [(2, [n111_2 K rs])]
theorem lib111_1 (K : Nat) (rs : (List Int) → (List Int) → ((List (List Int)) × Unit) → Option (((List (List Int)) × Unit))) (hrs : EntOk Try.prog 111 (e111r K rs)) : LibOk Try.prog (L111_1 K rs) := libOk_mk (ents := [(83, [e83 K]), (84, [e84 K]), (86, [e86 K]), (96, [e96 K]), (126, [e126 K]), (111, [e111r K rs])]) (bodies := []) (loops := [(2, [n111_2 K rs])]) order tiOk ⟨one_ent (e83_ok K), one_ent (e84_ok K), one_ent (e86_ok K), one_ent (e96_ok K), one_ent (e126_ok K), one_ent hrs, trivial⟩ trivial Try.func111 rfl lp111 ⟨no_lent, one_lent (n111_2_ok K rs hrs), trivial⟩
noncomputable def implb111_0 (K : Nat) (rs : (List Int) → (List Int) → ((List (List Int)) × Unit) → Option (((List (List Int)) × Unit))) (rc : (List Int) → (List Int) → ((List (List Int)) × Unit) → (List Int) → Int → Int → Option (((List (List Int)) × Unit) × Int × Unit)) (x1 : (List Int)) (x2 : (List Int)) (x3 : ((List (List Int)) × Unit)) (x4 : (List Int)) (x5 : Int) (x6 : Int) : Option (((List (List Int)) × Unit) × Int × Unit) :=
  (bif decide (x6 < x5) then (if (0 : Int) ≤ x6 ∧ x6 < (↑x4.length : Int) then (ob (implf84 K x1 (x4.getD x6.toNat ((0 : Int)))) fun y1 => (bif y1.2 then (rc x1 x2 (x3.1, ()) x4 x5 (IntKind.i64.wrap (x6 + (1 : Int)))) else (bif y1.1 == (0 : Int) then (rc x1 x2 (x3.1, ()) x4 x5 (IntKind.i64.wrap (x6 + (1 : Int)))) else (bif y1.1 == (↑x1.length : Int) then (rc x1 x2 (x3.1, ()) x4 x5 (IntKind.i64.wrap (x6 + (1 : Int)))) else (ob (impll111_2 K rs K x1 x2 (x3.1, ()) (x4.getD x6.toNat ((0 : Int))) y1.1 [] x4 x5 x6 x1 ((↑x1.length : Int)) ((0 : Int))) fun y2 => (ob (implf126 K x2 y2.2.1) fun y3 => (bif y3.2 then (ob (implf83 K x1) fun y4 => (ob (implf86 K y4 y1.1 ((List.replicate 1 ((0 : Int))).set 0 (x4.getD x6.toNat ((0 : Int))))) fun y5 => (ob (rs y5 y3.1 (y2.1.1, ())) fun y6 => (rc x1 x2 (y6.1, ()) x4 x5 (IntKind.i64.wrap (x6 + (1 : Int))))))) else (rc x1 x2 (y2.1.1, ()) x4 x5 (IntKind.i64.wrap (x6 + (1 : Int))))))))))) else none) else some (((x3.1, ()), x6, ())))
noncomputable def impll111_0 (K : Nat) (rs : (List Int) → (List Int) → ((List (List Int)) × Unit) → Option (((List (List Int)) × Unit))) : Nat → (List Int) → (List Int) → ((List (List Int)) × Unit) → (List Int) → Int → Int → Option (((List (List Int)) × Unit) × Int × Unit)
  | 0, _, _, _, _, _, _ => none
  | k + 1, x1, x2, x3, x4, x5, x6 => implb111_0 K rs (impll111_0 K rs k) x1 x2 x3 x4 x5 x6
noncomputable def n111_0 (K : Nat) (rs : (List Int) → (List Int) → ((List (List Int)) × Unit) → Option (((List (List Int)) × Unit))) : Lent := ⟨[0, 1, 2, 37, 38, 39], i111_0, [40, 41, 42, 8, 44, 45, 46, 43, 47, 48, 9, 10, 49, 50, 51, 52, 53, 54, 55, 56, 57, 58, 59, 11, 60, 61, 62, 63, 64, 65, 13, 66, 67, 68, 69, 70, 71, 72, 73, 74, 75, 76, 78, 79, 80, 77, 81, 82, 14, 15, 83, 84, 85, 86, 87, 88, 89, 90, 91, 92, 93], [0], false, res111, fun x => impll111_0 K rs K x.1 x.2.1 x.2.2.1 x.2.2.2.1 x.2.2.2.2.1 x.2.2.2.2.2.1, [], none⟩
theorem q111_0 (K : Nat) (rs : (List Int) → (List Int) → ((List (List Int)) × Unit) → Option (((List (List Int)) × Unit))) (rc : (List Int) → (List Int) → ((List (List Int)) × Unit) → (List Int) → Int → Int → Option (((List (List Int)) × Unit) × Int × Unit)) (x1 : (List Int)) (x2 : (List Int)) (x3 : ((List (List Int)) × Unit)) (x4 : (List Int)) (x5 : Int) (x6 : Int) : evLoop (L111_1 K rs) 3 111 Try.f111.results.toList (loopOf 0 (codeOf Try.f111)) 0 [0, 1, 2, 37, 38, 39] [] i111_0 [0] false res111 (fun x => rc x.1 x.2.1 x.2.2.1 x.2.2.2.1 x.2.2.2.2.1 x.2.2.2.2.2.1) (x1, x2, x3, x4, x5, x6, ()) = implb111_0 K rs rc x1 x2 x3 x4 x5 x6 := by kernel_rfl
theorem lp111_0 : loopsIn (loopOf 0 (codeOf Try.f111)) 0 = [(2, loopOf 2 (codeOf Try.f111))] := by kernel_rfl
theorem n111_0_ok (K : Nat) (rs : (List Int) → (List Int) → ((List (List Int)) × Unit) → Option (((List (List Int)) × Unit))) (hrs : EntOk Try.prog 111 (e111r K rs)) : LentOk Try.prog Try.f111 (loopOf 0 (codeOf Try.f111)) (n111_0 K rs) := lentOk_k (slots := [0, 1, 2, 37, 38, 39]) (ali := []) (ins := i111_0) (writes := [40, 41, 42, 8, 44, 45, 46, 43, 47, 48, 9, 10, 49, 50, 51, 52, 53, 54, 55, 56, 57, 58, 59, 11, 60, 61, 62, 63, 64, 65, 13, 66, 67, 68, 69, 70, 71, 72, 73, 74, 75, 76, 78, 79, 80, 77, 81, 82, 14, 15, 83, 84, 85, 86, 87, 88, 89, 90, 91, 92, 93]) (exits := [0]) (rets := false) (rs := res111) (d := 3) (lib111_1 K rs hrs) lp111_0 ⟨one_lent (n111_2_ok K rs hrs), trivial⟩ (by kernel_rfl) (by kernel_rfl) (by kernel_rfl) (by kernel_rfl) (by kernel_rfl) (fun k x => impll111_0 K rs k x.1 x.2.1 x.2.2.1 x.2.2.2.1 x.2.2.2.2.1 x.2.2.2.2.2.1) (fun _ => rfl) (fun k x => q111_0 K rs (impll111_0 K rs k) x.1 x.2.1 x.2.2.1 x.2.2.2.1 x.2.2.2.2.1 x.2.2.2.2.2.1) K
noncomputable def L111_2 (K : Nat) (rs : (List Int) → (List Int) → ((List (List Int)) × Unit) → Option (((List (List Int)) × Unit))) : Lib := mkLib ti [(83, [e83 K]), (84, [e84 K]), (86, [e86 K]), (96, [e96 K]), (126, [e126 K]), (111, [e111r K rs])] [] 111 [(2, [n111_2 K rs]), (0, [n111_0 K rs])]
theorem lib111_2 (K : Nat) (rs : (List Int) → (List Int) → ((List (List Int)) × Unit) → Option (((List (List Int)) × Unit))) (hrs : EntOk Try.prog 111 (e111r K rs)) : LibOk Try.prog (L111_2 K rs) := libOk_mk (ents := [(83, [e83 K]), (84, [e84 K]), (86, [e86 K]), (96, [e96 K]), (126, [e126 K]), (111, [e111r K rs])]) (bodies := []) (loops := [(2, [n111_2 K rs]), (0, [n111_0 K rs])]) order tiOk ⟨one_ent (e83_ok K), one_ent (e84_ok K), one_ent (e86_ok K), one_ent (e96_ok K), one_ent (e126_ok K), one_ent hrs, trivial⟩ trivial Try.func111 rfl lp111 ⟨one_lent (n111_0_ok K rs hrs), one_lent (n111_2_ok K rs hrs), trivial⟩
noncomputable def implg111 (K : Nat) (rs : (List Int) → (List Int) → ((List (List Int)) × Unit) → Option (((List (List Int)) × Unit))) (x1 : (List Int)) (x2 : (List Int)) (x3 : ((List (List Int)) × Unit)) : Option (((List (List Int)) × Unit)) :=
  (bif (↑x2.length : Int) == (0 : Int) then (ob (implf96 K x1 x3.1) fun y1 => some ((y1, ()))) else (if (0 : Int) ≤ IntKind.i64.wrap ((↑x2.length : Int) - (1 : Int)) ∧ IntKind.i64.wrap ((↑x2.length : Int) - (1 : Int)) < (↑x2.length : Int) then (if (0 : Int) ≤ IntKind.i64.wrap ((↑x1.length : Int) - (1 : Int)) ∧ IntKind.i64.wrap ((↑x1.length : Int) - (1 : Int)) < (↑x1.length : Int) then (ob (impll111_0 K rs K x1 x2 (x3.1, ()) (((List.replicate 2 ((0 : Int))).set 0 (x2.getD (IntKind.i64.wrap ((↑x2.length : Int) - (1 : Int))).toNat ((0 : Int)))).set 1 (IntKind.i64.wrap (x1.getD (IntKind.i64.wrap ((↑x1.length : Int) - (1 : Int))).toNat ((0 : Int)) - x2.getD (IntKind.i64.wrap ((↑x2.length : Int) - (1 : Int))).toNat ((0 : Int))))) (Int.ofNat (((List.replicate 2 ((0 : Int))).set 0 (x2.getD (IntKind.i64.wrap ((↑x2.length : Int) - (1 : Int))).toNat ((0 : Int)))).set 1 (IntKind.i64.wrap (x1.getD (IntKind.i64.wrap ((↑x1.length : Int) - (1 : Int))).toNat ((0 : Int)) - x2.getD (IntKind.i64.wrap ((↑x2.length : Int) - (1 : Int))).toNat ((0 : Int))))).length) ((0 : Int))) fun y2 => some ((y2.1.1, ()))) else none) else none))
theorem q111 (K : Nat) (rs : (List Int) → (List Int) → ((List (List Int)) × Unit) → Option (((List (List Int)) × Unit))) (x1 : (List Int)) (x2 : (List Int)) (x3 : ((List (List Int)) × Unit)) : evFnK (α := ((List (List Int)) × Unit)) (L111_2 K rs) 3 111 Try.f111.results.toList (codeOf Try.f111) ins111 res111 (fun p => p.2.1) (x1, x2, x3, ()) = implg111 K rs x1 x2 x3 := by kernel_rfl
noncomputable def implr111 (K : Nat) : Nat → (List Int) → (List Int) → ((List (List Int)) × Unit) → Option (((List (List Int)) × Unit))
  | 0, _, _, _ => none
  | k + 1, x1, x2, x3 => implg111 K (implr111 K k) x1 x2 x3
noncomputable def implf111 (K : Nat) (x1 : (List Int)) (x2 : (List Int)) (x3 : ((List (List Int)) × Unit)) : Option (((List (List Int)) × Unit)) := implr111 K K x1 x2 x3
theorem e111_step (K : Nat) (rs : (List Int) → (List Int) → ((List (List Int)) × Unit) → Option (((List (List Int)) × Unit))) (hrs : EntOk Try.prog 111 (e111r K rs)) : EntOk Try.prog 111 (e111r K (implg111 K rs)) := entOk_k (ins := ins111) (rs := res111) (α := ((List (List Int)) × Unit)) (lib111_2 K rs hrs) (d := 3) Try.func111 rfl (by kernel_rfl) (by kernel_rfl) (by kernel_rfl) (fun x => implg111 K rs x.1 x.2.1 x.2.2.1) (fun p => p.2.1) (fun y => ((), (y, ()))) (fun _ => rfl) (fun x => q111 K rs x.1 x.2.1 x.2.2.1)
theorem e111_rec (K : Nat) : ∀ k, EntOk Try.prog 111 (e111r K (implr111 K k))
  | 0 => ent_none Try.func111 rfl (by kernel_rfl) (fun _ => rfl)
  | k + 1 => e111_step K (implr111 K k) (e111_rec K k)
noncomputable def e111 (K : Nat) : Ent := ⟨ins111, res111, ((List (List Int)) × Unit), fun x => implf111 K x.1 x.2.1 x.2.2.1, fun _ => (fun y => ((), (y, ()))), false⟩
theorem e111_ok (K : Nat) : EntOk Try.prog 111 (e111 K) := e111_rec K K

/-! diaphone/echo.begin -/
abbrev ins95 : Fs := [(.dat (.sl (.int .i64)), false), (.fn 96 (.cons (.box (.own (.sl (.int .i64)))) .un), true)]
abbrev res95 : Sh := .nix
theorem lp95 : loopsIn (codeOf Try.f95) 0 = [] := by kernel_rfl
noncomputable def L95_0 (K : Nat) : Lib := mkLib ti [(96, [e96 K]), (111, [e111 K])] [] 95 []
theorem lib95_0 (K : Nat) : LibOk Try.prog (L95_0 K) := libOk_mk (ents := [(96, [e96 K]), (111, [e111 K])]) (bodies := []) (loops := []) order tiOk ⟨one_ent (e96_ok K), one_ent (e111_ok K), trivial⟩ trivial Try.func95 rfl lp95 trivial
noncomputable def implf95 (K : Nat) (x1 : (List Int)) (x2 : ((List (List Int)) × Unit)) : Option (((List (List Int)) × Unit)) :=
  (bif (↑x1.length : Int) == (0 : Int) then (ob (implf96 K ((List.replicate 1 ((0 : Int))).set 0 ((0 : Int))) x2.1) fun y1 => some ((y1, ()))) else (if (0 : Int) ≤ IntKind.i64.wrap ((↑x1.length : Int) - (1 : Int)) ∧ IntKind.i64.wrap ((↑x1.length : Int) - (1 : Int)) < (↑x1.length : Int) then (if (0 : Int) ≤ (0 : Int) ∧ (0 : Int) ≤ IntKind.i64.wrap ((↑x1.length : Int) - (1 : Int)) ∧ IntKind.i64.wrap ((↑x1.length : Int) - (1 : Int)) ≤ (↑x1.length : Int) then (ob (implf111 K (((List.replicate 2 ((0 : Int))).set 0 ((0 : Int))).set 1 (x1.getD (IntKind.i64.wrap ((↑x1.length : Int) - (1 : Int))).toNat ((0 : Int)))) (List.take (IntKind.i64.wrap ((↑x1.length : Int) - (1 : Int))).toNat x1) (x2.1, ())) fun y2 => some ((y2.1, ()))) else none) else none))
theorem q95 (K : Nat) (x1 : (List Int)) (x2 : ((List (List Int)) × Unit)) : evFnK (α := ((List (List Int)) × Unit)) (L95_0 K) 3 95 Try.f95.results.toList (codeOf Try.f95) ins95 res95 (fun p => p.2.1) (x1, x2, ()) = implf95 K x1 x2 := by kernel_rfl
noncomputable def e95 (K : Nat) : Ent := ⟨ins95, res95, ((List (List Int)) × Unit), fun x => implf95 K x.1 x.2.1, fun _ => (fun y => ((), (y, ()))), false⟩
theorem e95_ok (K : Nat) : EntOk Try.prog 95 (e95 K) := entOk_k (ins := ins95) (rs := res95) (α := ((List (List Int)) × Unit)) (lib95_0 K) (d := 3) Try.func95 rfl (by kernel_rfl) (by kernel_rfl) (by kernel_rfl) (fun x => implf95 K x.1 x.2.1) (fun p => p.2.1) (fun y => ((), (y, ()))) (fun _ => rfl) (fun x => q95 K x.1 x.2.1)

/-! slices.SortFunc[[][]int,[]int] -/
abbrev ins97 : Fs := [(.own (.sl (.int .i64)), true), (.fn 94 .un, false)]
abbrev res97 : Sh := .nix
noncomputable def implf97 (K : Nat) (x1 : List (List Int)) : Option (List (List Int)) := if x1.length ≤ 1000 ∧ (∀ x ∈ x1, x.length ≤ 1000) then some (isort leL x1) else none
noncomputable def e97 (K : Nat) : Ent := ⟨ins97, res97, List (List Int), fun x => implf97 K x.1, fun _ => (fun y => ((), (y, ()))), false⟩
theorem v110 (K : Nat) (a b : Int) : implf110 K a b = some (if a < b then -1 else if b < a then 1 else 0) := by
  unfold implf110
  simp only [ibne, cdec, decide_true, Bool.not_true, cond_false]
  by_cases h1 : a < b
  · simp [h1]
  · by_cases h2 : b < a
    · simp [h1, h2]
    · have h3 : ¬ a > b := h2
      simp [h1, h2, h3]
theorem w94_loop (K : Nat) (x y : List Int) (hx : x.length ≤ 1000) : ∀ (m k i : Nat), i + m = x.length → m < k → i ≤ y.length →
    (ob (impll94_0 K k x y x (x.length : Int) (i : Int)) fun y1 => (match y1 with | .inl y2 => (bif decide ((↑x.length : Int) < (↑y.length : Int)) then some ((-1 : Int)) else some (Int.ofNat 0)) | .inr y2 => some (y2))) = some (cmpL (x.drop i) (y.drop i))
  | m, 0, i, _, h, _ => by omega
  | 0, k + 1, i, h1, h2, h3 => by
    have e : ¬ (i : Int) < (x.length : Int) := by omega
    rw [impll94_0, implb94_0, cdec, if_neg e, obS]
    simp only []
    rw [List.drop_eq_nil_of_le (show x.length ≤ i by omega), cdec]
    by_cases g : x.length < y.length
    · rw [if_pos (by omega), drop_getD 0 (show i < y.length by omega)]; rfl
    · rw [if_neg (by omega), List.drop_eq_nil_of_le (show y.length ≤ i by omega)]; rfl
  | m + 1, k + 1, i, h1, h2, h3 => by
    have e : (i : Int) < (x.length : Int) := by omega
    rw [impll94_0, implb94_0, cdec, if_pos e, if_pos ⟨by omega, e⟩, cdec]
    rw [drop_getD 0 (show i < x.length by omega)]
    by_cases g : y.length ≤ i
    · rw [if_pos (by omega), obS, List.drop_eq_nil_of_le g]; rfl
    · rw [if_neg (by omega), if_pos ⟨by omega, by omega⟩, v110, obS, drop_getD 0 (show i < y.length by omega)]
      simp only [Int.toNat_natCast, ibne, cnot, cdec]
      rw [cmpL]
      have ih := w94_loop K x y hx m k (i + 1) (by omega) (by omega) (by omega)
      simp only [cdec] at ih
      rw [wrapS (by omega)]
      by_cases l1 : x.getD i 0 < y.getD i 0
      · rw [if_pos l1, if_pos l1, if_neg (by decide)]; rfl
      · rw [if_neg l1, if_neg l1]
        by_cases l2 : y.getD i 0 < x.getD i 0
        · rw [if_pos l2, if_pos l2, if_neg (by decide)]; rfl
        · rw [if_neg l2, if_neg l2, if_pos rfl]
          exact ih
theorem w94 (x y : List Int) (hx : x.length ≤ 1000) : implf94 5000 x y = some (cmpL x y) := by
  have := w94_loop 5000 x y hx x.length 5000 0 (by omega) (by omega) (Nat.zero_le _)
  rw [List.drop_zero, List.drop_zero] at this
  exact this
theorem w69_loop (K : Nat) (x y : List Int) (hx : x.length ≤ 1000) (hxy : x.length = y.length) : ∀ (m k i : Nat), i + m = x.length → m < k →
    (ob (impll69_0 K k x y (x.length : Int) (i : Int)) fun y1 => (match y1 with | .inl y2 => some (true) | .inr y2 => some (y2))) = some (decide (x.drop i = y.drop i))
  | m, 0, i, _, h => by omega
  | 0, k + 1, i, h1, h2 => by
    have e : ¬ (i : Int) < (x.length : Int) := by omega
    rw [impll69_0, implb69_0, cdec, if_neg e, obS]
    rw [List.drop_eq_nil_of_le (show x.length ≤ i by omega), List.drop_eq_nil_of_le (show y.length ≤ i by omega)]
    rfl
  | m + 1, k + 1, i, h1, h2 => by
    have e : (i : Int) < (x.length : Int) := by omega
    rw [impll69_0, implb69_0, cdec, if_pos e, if_pos ⟨by omega, e⟩, if_pos ⟨by omega, by omega⟩, ibne, cnot, cdec]
    rw [drop_getD 0 (show i < x.length by omega), drop_getD 0 (show i < y.length by omega), Int.toNat_natCast]
    by_cases g : x.getD i 0 = y.getD i 0
    · rw [if_pos g, wrapS (by omega)]
      have ih := w69_loop K x y hx hxy m k (i + 1) (by omega) (by omega)
      rw [ih]
      congr 1
      rw [Bool.eq_iff_iff]
      simp only [decide_eq_true_eq, List.cons.injEq, g, true_and]
    · rw [if_neg g, obS]
      simp only []
      congr 1
      exact (decide_eq_false (fun h => g (List.cons.inj h).1)).symm
theorem w69 (x y : List Int) (hx : x.length ≤ 1000) : implf69 5000 x y = some (decide (x = y)) := by
  unfold implf69
  rw [ibne, cnot, cdec]
  by_cases h : (x.length : Int) = (y.length : Int)
  · rw [if_pos h]
    have := w69_loop 5000 x y hx (by omega) x.length 5000 0 (by omega) (by omega)
    rw [List.drop_zero, List.drop_zero] at this
    exact this
  · rw [if_neg h]
    congr 1
    exact (decide_eq_false (fun e => h (by rw [e]))).symm
theorem e97_ok (K : Nat) : EntOk Try.prog 97 (e97 K) := sortL_ent sortF ⟨_, _, Try.func97, rfl, by kernel_rfl⟩ (e94_ok 5000) (fun x y hx _ => w94 x y hx) (enter_of Try.func94 rfl (by kernel_rfl))

/-! slices.CompactFunc[[][]int,[]int] -/
abbrev ins98 : Fs := [(.own (.sl (.int .i64)), false), (.fn 69 .un, false)]
abbrev res98 : Sh := .own (.sl (.int .i64))
noncomputable def implf98 (K : Nat) (x1 : List (List Int)) : Option (List (List Int)) := if x1.length ≤ 1000 ∧ (∀ x ∈ x1, x.length ≤ 1000) then some (compactL x1) else none
noncomputable def e98 (K : Nat) : Ent := ⟨ins98, res98, List (List Int), fun x => implf98 K x.1, fun _ => (fun y => (y, ())), true⟩
theorem e98_ok (K : Nat) : EntOk Try.prog 98 (e98 K) := compactL_ent (e69_ok 5000) (fun x y hx _ => w69 x y hx)

/-! diaphone/echo.every -/
abbrev ins75 : Fs := [(.dat (.sl (.int .i64)), false)]
abbrev res75 : Sh := .own (.sl (.int .i64))
theorem lp75 : loopsIn (codeOf Try.f75) 0 = [] := by kernel_rfl
noncomputable def L75_0 (K : Nat) : Lib := mkLib ti [(110, [e110 K]), (95, [e95 K]), (96, [e96 K]), (97, [e97 K]), (98, [e98 K])] [(69, Try.f69), (94, Try.f94)] 75 []
theorem lib75_0 (K : Nat) : LibOk Try.prog (L75_0 K) := libOk_mk (ents := [(110, [e110 K]), (95, [e95 K]), (96, [e96 K]), (97, [e97 K]), (98, [e98 K])]) (bodies := [(69, Try.f69), (94, Try.f94)]) (loops := []) order tiOk ⟨one_ent (e110_ok K), one_ent (e95_ok K), one_ent (e96_ok K), one_ent (e97_ok K), one_ent (e98_ok K), trivial⟩ ⟨bod69, bod94, trivial⟩ Try.func75 rfl lp75 trivial
noncomputable def implf75 (K : Nat) (x1 : (List Int)) : Option ((List (List Int))) :=
  (ob (implf95 K x1 ([], ())) fun y1 => (ob (implf97 K y1.1) fun y2 => (ob (implf98 K y2) fun y3 => some (y3))))
theorem q75 (K : Nat) (x1 : (List Int)) : evFnK (α := (List (List Int))) (L75_0 K) 3 75 Try.f75.results.toList (codeOf Try.f75) ins75 res75 (fun p => p.1) (x1, ()) = implf75 K x1 := by kernel_rfl
noncomputable def e75 (K : Nat) : Ent := ⟨ins75, res75, (List (List Int)), fun x => implf75 K x.1, fun _ => (fun y => (y, (()))), false⟩
theorem e75_ok (K : Nat) : EntOk Try.prog 75 (e75 K) := entOk_k (ins := ins75) (rs := res75) (α := (List (List Int))) (lib75_0 K) (d := 3) Try.func75 rfl (by kernel_rfl) (by kernel_rfl) (by kernel_rfl) (fun x => implf75 K x.1) (fun p => p.1) (fun y => (y, (()))) (fun _ => rfl) (fun x => q75 K x.1)

/-! slices.IsSorted[[]int,int] -/
abbrev ins91 : Fs := [(.dat (.sl (.int .i64)), false)]
abbrev res91 : Sh := .dat (.bool)
theorem lp91 : loopsIn (codeOf Try.f91) 0 = [(0, loopOf 0 (codeOf Try.f91))] := by kernel_rfl
noncomputable def L91_0 (K : Nat) : Lib := mkLib ti [(103, [e103 K])] [] 91 []
theorem lib91_0 (K : Nat) : LibOk Try.prog (L91_0 K) := libOk_mk (ents := [(103, [e103 K])]) (bodies := []) (loops := []) order tiOk ⟨one_ent (e103_ok K), trivial⟩ trivial Try.func91 rfl lp91 ⟨no_lent, trivial⟩
abbrev i91_0 : Fs := [(.dat (.sl (.int Go.IntKind.i64)), false), (.dat (.int Go.IntKind.i64), true)]
noncomputable def implb91_0 (K : Nat) (rc : (List Int) → Int → Option (Sum (Int × Unit) Bool)) (x1 : (List Int)) (x2 : Int) : Option (Sum (Int × Unit) Bool) :=
  (bif decide (x2 > (0 : Int)) then (if (0 : Int) ≤ x2 ∧ x2 < (↑x1.length : Int) then (if (0 : Int) ≤ IntKind.i64.wrap (x2 - (1 : Int)) ∧ IntKind.i64.wrap (x2 - (1 : Int)) < (↑x1.length : Int) then (ob (implf103 K (x1.getD x2.toNat ((0 : Int))) (x1.getD (IntKind.i64.wrap (x2 - (1 : Int))).toNat ((0 : Int)))) fun y1 => (bif y1 then some (Sum.inr false) else (rc x1 (IntKind.i64.wrap (x2 - (1 : Int)))))) else none) else none) else some (Sum.inl (x2, ())))
noncomputable def impll91_0 (K : Nat) : Nat → (List Int) → Int → Option (Sum (Int × Unit) Bool)
  | 0, _, _ => none
  | k + 1, x1, x2 => implb91_0 K (impll91_0 K k) x1 x2
noncomputable def n91_0 (K : Nat) : Lent := ⟨[0, 3], i91_0, [7, 8, 11, 12, 13, 14, 15, 16, 17, 18, 19, 20, 2, 9, 10], [0], true, res91, fun x => impll91_0 K K x.1 x.2.1, [], none⟩
theorem q91_0 (K : Nat) (rc : (List Int) → Int → Option (Sum (Int × Unit) Bool)) (x1 : (List Int)) (x2 : Int) : evLoop (L91_0 K) 3 91 Try.f91.results.toList (loopOf 0 (codeOf Try.f91)) 0 [0, 3] [] i91_0 [0] true res91 (fun x => rc x.1 x.2.1) (x1, x2, ()) = implb91_0 K rc x1 x2 := by kernel_rfl
theorem lp91_0 : loopsIn (loopOf 0 (codeOf Try.f91)) 0 = [] := by kernel_rfl
theorem n91_0_ok (K : Nat) : LentOk Try.prog Try.f91 (loopOf 0 (codeOf Try.f91)) (n91_0 K) := lentOk_k (slots := [0, 3]) (ali := []) (ins := i91_0) (writes := [7, 8, 11, 12, 13, 14, 15, 16, 17, 18, 19, 20, 2, 9, 10]) (exits := [0]) (rets := true) (rs := res91) (d := 3) (lib91_0 K) lp91_0 trivial (by kernel_rfl) (by kernel_rfl) (by kernel_rfl) (by kernel_rfl) (by kernel_rfl) (fun k x => impll91_0 K k x.1 x.2.1) (fun _ => rfl) (fun k x => q91_0 K (impll91_0 K k) x.1 x.2.1) K
noncomputable def L91_1 (K : Nat) : Lib := mkLib ti [(103, [e103 K])] [] 91 [(0, [n91_0 K])]
theorem lib91_1 (K : Nat) : LibOk Try.prog (L91_1 K) := libOk_mk (ents := [(103, [e103 K])]) (bodies := []) (loops := [(0, [n91_0 K])]) order tiOk ⟨one_ent (e103_ok K), trivial⟩ trivial Try.func91 rfl lp91 ⟨one_lent (n91_0_ok K), trivial⟩
noncomputable def implf91 (K : Nat) (x1 : (List Int)) : Option (Bool) :=
  (ob (impll91_0 K K x1 (IntKind.i64.wrap ((↑x1.length : Int) - (1 : Int)))) fun y1 => (match y1 with | .inl y2 => some (true) | .inr y2 => some (y2)))
theorem q91 (K : Nat) (x1 : (List Int)) : evFnK (α := Bool) (L91_1 K) 3 91 Try.f91.results.toList (codeOf Try.f91) ins91 res91 (fun p => p.1) (x1, ()) = implf91 K x1 := by kernel_rfl
noncomputable def e91 (K : Nat) : Ent := ⟨ins91, res91, Bool, fun x => implf91 K x.1, fun _ => (fun y => (y, (()))), false⟩
theorem e91_ok (K : Nat) : EntOk Try.prog 91 (e91 K) := entOk_k (ins := ins91) (rs := res91) (α := Bool) (lib91_1 K) (d := 3) Try.func91 rfl (by kernel_rfl) (by kernel_rfl) (by kernel_rfl) (fun x => implf91 K x.1) (fun p => p.1) (fun y => (y, (()))) (fun _ => rfl) (fun x => q91 K x.1)

/-! slices.IndexFunc[[]int,int] -/
abbrev ins109 : Fs := [(.dat (.sl (.int .i64)), false), (.fn 93 .un, false)]
abbrev res109 : Sh := .dat (.int .i64)
theorem lp109 : loopsIn (codeOf Try.f109) 0 = [(0, loopOf 0 (codeOf Try.f109))] := by kernel_rfl
noncomputable def L109_0 (K : Nat) : Lib := mkLib ti [(61, [e61 K])] [(93, Try.f93)] 109 []
theorem lib109_0 (K : Nat) : LibOk Try.prog (L109_0 K) := libOk_mk (ents := [(61, [e61 K])]) (bodies := [(93, Try.f93)]) (loops := []) order tiOk ⟨one_ent (e61_ok K), trivial⟩ ⟨bod93, trivial⟩ Try.func109 rfl lp109 ⟨no_lent, trivial⟩
abbrev i109_0 : Fs := [(.dat (.sl (.int Go.IntKind.i64)), false), (.fn 93 (.un), false), (.dat (.int Go.IntKind.i64), false), (.dat (.int Go.IntKind.i64), true)]
noncomputable def implb109_0 (K : Nat) (rc : (List Int) → Unit → Int → Int → Option (Sum (Int × Unit) Int)) (x1 : (List Int)) (x2 : Unit) (x3 : Int) (x4 : Int) : Option (Sum (Int × Unit) Int) :=
  (bif decide (x4 < x3) then (if (0 : Int) ≤ x4 ∧ x4 < (↑x1.length : Int) then (ob (implf61 K (x1.getD x4.toNat ((0 : Int))) ((1 : Int)) ((60 : Int))) fun y1 => (bif !y1 then some (Sum.inr x4) else (rc x1 x2 x3 (IntKind.i64.wrap (x4 + (1 : Int)))))) else none) else some (Sum.inl (x4, ())))
noncomputable def impll109_0 (K : Nat) : Nat → (List Int) → Unit → Int → Int → Option (Sum (Int × Unit) Int)
  | 0, _, _, _, _ => none
  | k + 1, x1, x2, x3, x4 => implb109_0 K (impll109_0 K k) x1 x2 x3 x4
noncomputable def n109_0 (K : Nat) : Lent := ⟨[0, 1, 7, 8], i109_0, [9, 10, 5, 11, 12, 13, 14, 15, 16, 17, 4, 18], [0], true, res109, fun x => impll109_0 K K x.1 x.2.1 x.2.2.1 x.2.2.2.1, [], none⟩
theorem q109_0 (K : Nat) (rc : (List Int) → Unit → Int → Int → Option (Sum (Int × Unit) Int)) (x1 : (List Int)) (x2 : Unit) (x3 : Int) (x4 : Int) : evLoop (L109_0 K) 3 109 Try.f109.results.toList (loopOf 0 (codeOf Try.f109)) 0 [0, 1, 7, 8] [] i109_0 [0] true res109 (fun x => rc x.1 x.2.1 x.2.2.1 x.2.2.2.1) (x1, x2, x3, x4, ()) = implb109_0 K rc x1 x2 x3 x4 := by kernel_rfl
theorem lp109_0 : loopsIn (loopOf 0 (codeOf Try.f109)) 0 = [] := by kernel_rfl
theorem n109_0_ok (K : Nat) : LentOk Try.prog Try.f109 (loopOf 0 (codeOf Try.f109)) (n109_0 K) := lentOk_k (slots := [0, 1, 7, 8]) (ali := []) (ins := i109_0) (writes := [9, 10, 5, 11, 12, 13, 14, 15, 16, 17, 4, 18]) (exits := [0]) (rets := true) (rs := res109) (d := 3) (lib109_0 K) lp109_0 trivial (by kernel_rfl) (by kernel_rfl) (by kernel_rfl) (by kernel_rfl) (by kernel_rfl) (fun k x => impll109_0 K k x.1 x.2.1 x.2.2.1 x.2.2.2.1) (fun _ => rfl) (fun k x => q109_0 K (impll109_0 K k) x.1 x.2.1 x.2.2.1 x.2.2.2.1) K
noncomputable def L109_1 (K : Nat) : Lib := mkLib ti [(61, [e61 K])] [(93, Try.f93)] 109 [(0, [n109_0 K])]
theorem lib109_1 (K : Nat) : LibOk Try.prog (L109_1 K) := libOk_mk (ents := [(61, [e61 K])]) (bodies := [(93, Try.f93)]) (loops := [(0, [n109_0 K])]) order tiOk ⟨one_ent (e61_ok K), trivial⟩ ⟨bod93, trivial⟩ Try.func109 rfl lp109 ⟨one_lent (n109_0_ok K), trivial⟩
noncomputable def implf109 (K : Nat) (x1 : (List Int)) (x2 : Unit) : Option (Int) :=
  (ob (impll109_0 K K x1 () ((↑x1.length : Int)) ((0 : Int))) fun y1 => (match y1 with | .inl y2 => some ((-1 : Int)) | .inr y2 => some (y2)))
theorem q109 (K : Nat) (x1 : (List Int)) (x2 : Unit) : evFnK (α := Int) (L109_1 K) 3 109 Try.f109.results.toList (codeOf Try.f109) ins109 res109 (fun p => p.1) (x1, x2, ()) = implf109 K x1 x2 := by kernel_rfl
noncomputable def e109 (K : Nat) : Ent := ⟨ins109, res109, Int, fun x => implf109 K x.1 x.2.1, fun _ => (fun y => (y, (()))), false⟩
theorem e109_ok (K : Nat) : EntOk Try.prog 109 (e109 K) := entOk_k (ins := ins109) (rs := res109) (α := Int) (lib109_1 K) (d := 3) Try.func109 rfl (by kernel_rfl) (by kernel_rfl) (by kernel_rfl) (fun x => implf109 K x.1 x.2.1) (fun p => p.1) (fun y => (y, (()))) (fun _ => rfl) (fun x => q109 K x.1 x.2.1)

/-! diaphone/echo.claimed -/
abbrev ins72 : Fs := [(.dat (.sl (.int .i64)), false)]
abbrev res72 : Sh := .dat (.int .i64)
theorem lp72 : loopsIn (codeOf Try.f72) 0 = [] := by kernel_rfl
noncomputable def L72_0 (K : Nat) : Lib := mkLib ti [(100, [e100 K]), (91, [e91 K]), (109, [e109 K]), (61, [e61 K])] [(79, Try.f79), (92, Try.f92), (93, Try.f93)] 72 []
theorem lib72_0 (K : Nat) : LibOk Try.prog (L72_0 K) := libOk_mk (ents := [(100, [e100 K]), (91, [e91 K]), (109, [e109 K]), (61, [e61 K])]) (bodies := [(79, Try.f79), (92, Try.f92), (93, Try.f93)]) (loops := []) order tiOk ⟨one_ent (e100_ok K), one_ent (e91_ok K), one_ent (e109_ok K), one_ent (e61_ok K), trivial⟩ ⟨bod79, bod92, bod93, trivial⟩ Try.func72 rfl lp72 trivial
noncomputable def implf72 (K : Nat) (x1 : (List Int)) : Option (Int) :=
  (bif decide ((↑x1.length : Int) > (15 : Int)) then some ((3 : Int)) else (ob (implf100 K (((((((List.replicate 6 ((0 : Int))).set 0 ((0 : Int))).set 1 ((1 : Int))).set 2 ((3 : Int))).set 3 ((6 : Int))).set 4 ((10 : Int))).set 5 ((15 : Int))) ((↑x1.length : Int))) fun y1 => (bif !decide (y1 ≥ (0 : Int)) then some ((1 : Int)) else (ob (implf91 K x1) fun y2 => (bif !y2 then some ((1 : Int)) else (ob (implf109 K x1 ()) fun y3 => (bif decide (y3 ≥ (0 : Int)) then some ((1 : Int)) else some ((0 : Int)))))))))
theorem q72 (K : Nat) (x1 : (List Int)) : evFnK (α := Int) (L72_0 K) 3 72 Try.f72.results.toList (codeOf Try.f72) ins72 res72 (fun p => p.1) (x1, ()) = implf72 K x1 := by kernel_rfl
noncomputable def e72 (K : Nat) : Ent := ⟨ins72, res72, Int, fun x => implf72 K x.1, fun _ => (fun y => (y, (()))), false⟩
theorem e72_ok (K : Nat) : EntOk Try.prog 72 (e72 K) := entOk_k (ins := ins72) (rs := res72) (α := Int) (lib72_0 K) (d := 3) Try.func72 rfl (by kernel_rfl) (by kernel_rfl) (by kernel_rfl) (fun x => implf72 K x.1) (fun p => p.1) (fun y => (y, (()))) (fun _ => rfl) (fun x => q72 K x.1)

/-! diaphone/echo.All -/
abbrev ins37 : Fs := [(.dat (.sl (.int .i64)), false)]
abbrev res37 : Sh := .cons (.own (.sl (.int .i64))) (.cons (.dat (.int .i64)) (.un))
theorem lp37 : loopsIn (codeOf Try.f37) 0 = [] := by kernel_rfl
noncomputable def L37_0 (K : Nat) : Lib := mkLib ti [(72, [e72 K]), (110, [e110 K]), (95, [e95 K]), (96, [e96 K]), (97, [e97 K]), (98, [e98 K])] [(69, Try.f69), (75, Try.f75), (94, Try.f94)] 37 []
theorem lib37_0 (K : Nat) : LibOk Try.prog (L37_0 K) := libOk_mk (ents := [(72, [e72 K]), (110, [e110 K]), (95, [e95 K]), (96, [e96 K]), (97, [e97 K]), (98, [e98 K])]) (bodies := [(69, Try.f69), (75, Try.f75), (94, Try.f94)]) (loops := []) order tiOk ⟨one_ent (e72_ok K), one_ent (e110_ok K), one_ent (e95_ok K), one_ent (e96_ok K), one_ent (e97_ok K), one_ent (e98_ok K), trivial⟩ ⟨bod69, bod75, bod94, trivial⟩ Try.func37 rfl lp37 trivial
noncomputable def implf37 (K : Nat) (x1 : (List Int)) : Option ((List (List Int)) × Int) :=
  (ob (implf72 K x1) fun y1 => (bif y1 != (0 : Int) then some (([], y1)) else (ob (implf95 K x1 ([], ())) fun y2 => (ob (implf97 K y2.1) fun y3 => (ob (implf98 K y3) fun y4 => some ((y4, (0 : Int))))))))
theorem q37 (K : Nat) (x1 : (List Int)) : evFnK (α := (List (List Int)) × Int) (L37_0 K) 3 37 Try.f37.results.toList (codeOf Try.f37) ins37 res37 (fun p => (p.1.1, p.1.2.1)) (x1, ()) = implf37 K x1 := by kernel_rfl
noncomputable def e37 (K : Nat) : Ent := ⟨ins37, res37, (List (List Int)) × Int, fun x => implf37 K x.1, fun _ => (fun y => ((y.1, y.2, ()), (()))), false⟩
theorem e37_ok (K : Nat) : EntOk Try.prog 37 (e37 K) := entOk_k (ins := ins37) (rs := res37) (α := (List (List Int)) × Int) (lib37_0 K) (d := 3) Try.func37 rfl (by kernel_rfl) (by kernel_rfl) (by kernel_rfl) (fun x => implf37 K x.1) (fun p => (p.1.1, p.1.2.1)) (fun y => ((y.1, y.2, ()), (()))) (fun _ => rfl) (fun x => q37 K x.1)

/-! diaphone/diaphonelaw05.Long -/
abbrev ins18 : Fs := [(.dat (.sl (.sl (.int .i64))), false)]
abbrev res18 : Sh := .dat (.bool)
theorem lp18 : loopsIn (codeOf Try.f18) 0 = [(0, loopOf 0 (codeOf Try.f18))] := by kernel_rfl
noncomputable def L18_0 (K : Nat) : Lib := mkLib ti [] [] 18 []
theorem lib18_0 (K : Nat) : LibOk Try.prog (L18_0 K) := libOk_mk (ents := []) (bodies := []) (loops := []) order tiOk trivial trivial Try.func18 rfl lp18 ⟨no_lent, trivial⟩
abbrev i18_0 : Fs := [(.dat (.sl (.sl (.int Go.IntKind.i64))), false), (.dat (.int Go.IntKind.i64), true)]
noncomputable def implb18_0 (K : Nat) (rc : (List (List Int)) → Int → Option (Sum (Int × Unit) Bool)) (x1 : (List (List Int))) (x2 : Int) : Option (Sum (Int × Unit) Bool) :=
  (bif decide (x2 < (↑x1.length : Int)) then (if (0 : Int) ≤ x2 ∧ x2 < (↑x1.length : Int) then (bif decide ((↑(x1.getD x2.toNat []).length : Int) > (100 : Int)) then some (Sum.inr true) else (rc x1 (IntKind.i64.wrap (x2 + (1 : Int))))) else none) else some (Sum.inl (x2, ())))
noncomputable def impll18_0 (K : Nat) : Nat → (List (List Int)) → Int → Option (Sum (Int × Unit) Bool)
  | 0, _, _ => none
  | k + 1, x1, x2 => implb18_0 K (impll18_0 K k) x1 x2
noncomputable def n18_0 (K : Nat) : Lent := ⟨[0, 3], i18_0, [4, 5, 6, 7, 10, 11, 12, 13, 14, 15, 2, 8, 9], [0], true, res18, fun x => impll18_0 K K x.1 x.2.1, [], none⟩
theorem q18_0 (K : Nat) (rc : (List (List Int)) → Int → Option (Sum (Int × Unit) Bool)) (x1 : (List (List Int))) (x2 : Int) : evLoop (L18_0 K) 3 18 Try.f18.results.toList (loopOf 0 (codeOf Try.f18)) 0 [0, 3] [] i18_0 [0] true res18 (fun x => rc x.1 x.2.1) (x1, x2, ()) = implb18_0 K rc x1 x2 := by kernel_rfl
theorem lp18_0 : loopsIn (loopOf 0 (codeOf Try.f18)) 0 = [] := by kernel_rfl
theorem n18_0_ok (K : Nat) : LentOk Try.prog Try.f18 (loopOf 0 (codeOf Try.f18)) (n18_0 K) := lentOk_k (slots := [0, 3]) (ali := []) (ins := i18_0) (writes := [4, 5, 6, 7, 10, 11, 12, 13, 14, 15, 2, 8, 9]) (exits := [0]) (rets := true) (rs := res18) (d := 3) (lib18_0 K) lp18_0 trivial (by kernel_rfl) (by kernel_rfl) (by kernel_rfl) (by kernel_rfl) (by kernel_rfl) (fun k x => impll18_0 K k x.1 x.2.1) (fun _ => rfl) (fun k x => q18_0 K (impll18_0 K k) x.1 x.2.1) K
noncomputable def L18_1 (K : Nat) : Lib := mkLib ti [] [] 18 [(0, [n18_0 K])]
theorem lib18_1 (K : Nat) : LibOk Try.prog (L18_1 K) := libOk_mk (ents := []) (bodies := []) (loops := [(0, [n18_0 K])]) order tiOk trivial trivial Try.func18 rfl lp18 ⟨one_lent (n18_0_ok K), trivial⟩
noncomputable def implf18 (K : Nat) (x1 : (List (List Int))) : Option (Bool) :=
  (ob (impll18_0 K K x1 ((0 : Int))) fun y1 => (match y1 with | .inl y2 => some (false) | .inr y2 => some (y2)))
theorem q18 (K : Nat) (x1 : (List (List Int))) : evFnK (α := Bool) (L18_1 K) 3 18 Try.f18.results.toList (codeOf Try.f18) ins18 res18 (fun p => p.1) (x1, ()) = implf18 K x1 := by kernel_rfl
noncomputable def e18 (K : Nat) : Ent := ⟨ins18, res18, Bool, fun x => implf18 K x.1, fun _ => (fun y => (y, (()))), false⟩
theorem e18_ok (K : Nat) : EntOk Try.prog 18 (e18 K) := entOk_k (ins := ins18) (rs := res18) (α := Bool) (lib18_1 K) (d := 3) Try.func18 rfl (by kernel_rfl) (by kernel_rfl) (by kernel_rfl) (fun x => implf18 K x.1) (fun p => p.1) (fun y => (y, (()))) (fun _ => rfl) (fun x => q18 K x.1)

/-! diaphone/echo.Validate -/
abbrev ins32 : Fs := [(.dat (.sl (.int .i64)), false)]
abbrev res32 : Sh := .dat (.int .i64)
theorem lp32 : loopsIn (codeOf Try.f32) 0 = [(0, loopOf 0 (codeOf Try.f32))] := by kernel_rfl
noncomputable def L32_0 (K : Nat) : Lib := mkLib ti [(61, [e61 K])] [] 32 []
theorem lib32_0 (K : Nat) : LibOk Try.prog (L32_0 K) := libOk_mk (ents := [(61, [e61 K])]) (bodies := []) (loops := []) order tiOk ⟨one_ent (e61_ok K), trivial⟩ trivial Try.func32 rfl lp32 ⟨no_lent, trivial⟩
abbrev i32_0 : Fs := [(.dat (.sl (.int Go.IntKind.i64)), false), (.dat (.sl (.int Go.IntKind.i64)), false), (.dat (.int Go.IntKind.i64), false), (.dat (.int Go.IntKind.i64), true)]
noncomputable def implb32_0 (K : Nat) (rc : (List Int) → (List Int) → Int → Int → Option (Sum (Int × Unit) Int)) (x1 : (List Int)) (x2 : (List Int)) (x3 : Int) (x4 : Int) : Option (Sum (Int × Unit) Int) :=
  (bif decide (x4 < x3) then (if (0 : Int) ≤ x4 ∧ x4 < (↑x2.length : Int) then (ob (implf61 K (x2.getD x4.toNat ((0 : Int))) (-60 : Int) ((60 : Int))) fun y1 => (bif !y1 then some (Sum.inr ((1 : Int))) else (bif decide (x4 > (0 : Int)) then (if (0 : Int) ≤ IntKind.i64.wrap (x4 - (1 : Int)) ∧ IntKind.i64.wrap (x4 - (1 : Int)) < (↑x1.length : Int) then (bif decide (x2.getD x4.toNat ((0 : Int)) ≤ x1.getD (IntKind.i64.wrap (x4 - (1 : Int))).toNat ((0 : Int))) then some (Sum.inr ((1 : Int))) else (rc x1 x2 x3 (IntKind.i64.wrap (x4 + (1 : Int))))) else none) else (rc x1 x2 x3 (IntKind.i64.wrap (x4 + (1 : Int))))))) else none) else some (Sum.inl (x4, ())))
noncomputable def impll32_0 (K : Nat) : Nat → (List Int) → (List Int) → Int → Int → Option (Sum (Int × Unit) Int)
  | 0, _, _, _, _ => none
  | k + 1, x1, x2, x3, x4 => implb32_0 K (impll32_0 K k) x1 x2 x3 x4
noncomputable def n32_0 (K : Nat) : Lent := ⟨[0, 9, 10, 11], i32_0, [12, 13, 14, 15, 3, 4, 16, 17, 18, 19, 20, 21, 22, 23, 24, 25, 26, 27, 28, 29, 30, 31, 2, 32], [0], true, res32, fun x => impll32_0 K K x.1 x.2.1 x.2.2.1 x.2.2.2.1, [], none⟩
theorem q32_0 (K : Nat) (rc : (List Int) → (List Int) → Int → Int → Option (Sum (Int × Unit) Int)) (x1 : (List Int)) (x2 : (List Int)) (x3 : Int) (x4 : Int) : evLoop (L32_0 K) 3 32 Try.f32.results.toList (loopOf 0 (codeOf Try.f32)) 0 [0, 9, 10, 11] [] i32_0 [0] true res32 (fun x => rc x.1 x.2.1 x.2.2.1 x.2.2.2.1) (x1, x2, x3, x4, ()) = implb32_0 K rc x1 x2 x3 x4 := by kernel_rfl
theorem lp32_0 : loopsIn (loopOf 0 (codeOf Try.f32)) 0 = [] := by kernel_rfl
theorem n32_0_ok (K : Nat) : LentOk Try.prog Try.f32 (loopOf 0 (codeOf Try.f32)) (n32_0 K) := lentOk_k (slots := [0, 9, 10, 11]) (ali := []) (ins := i32_0) (writes := [12, 13, 14, 15, 3, 4, 16, 17, 18, 19, 20, 21, 22, 23, 24, 25, 26, 27, 28, 29, 30, 31, 2, 32]) (exits := [0]) (rets := true) (rs := res32) (d := 3) (lib32_0 K) lp32_0 trivial (by kernel_rfl) (by kernel_rfl) (by kernel_rfl) (by kernel_rfl) (by kernel_rfl) (fun k x => impll32_0 K k x.1 x.2.1 x.2.2.1 x.2.2.2.1) (fun _ => rfl) (fun k x => q32_0 K (impll32_0 K k) x.1 x.2.1 x.2.2.1 x.2.2.2.1) K
noncomputable def L32_1 (K : Nat) : Lib := mkLib ti [(61, [e61 K])] [] 32 [(0, [n32_0 K])]
theorem lib32_1 (K : Nat) : LibOk Try.prog (L32_1 K) := libOk_mk (ents := [(61, [e61 K])]) (bodies := []) (loops := [(0, [n32_0 K])]) order tiOk ⟨one_ent (e61_ok K), trivial⟩ trivial Try.func32 rfl lp32 ⟨one_lent (n32_0_ok K), trivial⟩
noncomputable def implf32 (K : Nat) (x1 : (List Int)) : Option (Int) :=
  (ob (implf61 K ((↑x1.length : Int)) ((1 : Int)) ((6 : Int))) fun y1 => (bif !y1 then some ((3 : Int)) else (ob (impll32_0 K K x1 x1 ((↑x1.length : Int)) ((0 : Int))) fun y2 => (match y2 with | .inl y3 => (if (0 : Int) ≤ IntKind.i64.wrap ((↑x1.length : Int) - (1 : Int)) ∧ IntKind.i64.wrap ((↑x1.length : Int) - (1 : Int)) < (↑x1.length : Int) then (if (0 : Int) ≤ (0 : Int) ∧ (0 : Int) < (↑x1.length : Int) then (bif decide (IntKind.i64.wrap (x1.getD (IntKind.i64.wrap ((↑x1.length : Int) - (1 : Int))).toNat ((0 : Int)) - x1.getD (0) ((0 : Int))) > (60 : Int)) then some ((1 : Int)) else some ((0 : Int))) else none) else none) | .inr y3 => some (y3)))))
theorem q32 (K : Nat) (x1 : (List Int)) : evFnK (α := Int) (L32_1 K) 3 32 Try.f32.results.toList (codeOf Try.f32) ins32 res32 (fun p => p.1) (x1, ()) = implf32 K x1 := by kernel_rfl
noncomputable def e32 (K : Nat) : Ent := ⟨ins32, res32, Int, fun x => implf32 K x.1, fun _ => (fun y => (y, (()))), false⟩
theorem e32_ok (K : Nat) : EntOk Try.prog 32 (e32 K) := entOk_k (ins := ins32) (rs := res32) (α := Int) (lib32_1 K) (d := 3) Try.func32 rfl (by kernel_rfl) (by kernel_rfl) (by kernel_rfl) (fun x => implf32 K x.1) (fun p => p.1) (fun y => (y, (()))) (fun _ => rfl) (fun x => q32 K x.1)

/-! diaphone/echo.both -/
abbrev ins68 : Fs := [(.dat (.sl (.int .i64)), false), (.dat (.sl (.int .i64)), false)]
abbrev res68 : Sh := .dat (.int .i64)
theorem lp68 : loopsIn (codeOf Try.f68) 0 = [] := by kernel_rfl
noncomputable def L68_0 (K : Nat) : Lib := mkLib ti [(32, [e32 K])] [] 68 []
theorem lib68_0 (K : Nat) : LibOk Try.prog (L68_0 K) := libOk_mk (ents := [(32, [e32 K])]) (bodies := []) (loops := []) order tiOk ⟨one_ent (e32_ok K), trivial⟩ trivial Try.func68 rfl lp68 trivial
noncomputable def implf68 (K : Nat) (x1 : (List Int)) (x2 : (List Int)) : Option (Int) :=
  (ob (implf32 K x1) fun y1 => (bif y1 != (0 : Int) then some (y1) else (ob (implf32 K x2) fun y2 => some (y2))))
theorem q68 (K : Nat) (x1 : (List Int)) (x2 : (List Int)) : evFnK (α := Int) (L68_0 K) 3 68 Try.f68.results.toList (codeOf Try.f68) ins68 res68 (fun p => p.1) (x1, x2, ()) = implf68 K x1 x2 := by kernel_rfl
noncomputable def e68 (K : Nat) : Ent := ⟨ins68, res68, Int, fun x => implf68 K x.1 x.2.1, fun _ => (fun y => (y, (()))), false⟩
theorem e68_ok (K : Nat) : EntOk Try.prog 68 (e68 K) := entOk_k (ins := ins68) (rs := res68) (α := Int) (lib68_0 K) (d := 3) Try.func68 rfl (by kernel_rfl) (by kernel_rfl) (by kernel_rfl) (fun x => implf68 K x.1 x.2.1) (fun p => p.1) (fun y => (y, (()))) (fun _ => rfl) (fun x => q68 K x.1 x.2.1)

/-! diaphone/echo.checked -/
abbrev ins85 : Fs := [(.dat (.sl (.int .i64)), false)]
abbrev res85 : Sh := .cons (.dat (.sl (.int .i64))) (.cons (.dat (.int .i64)) (.un))
theorem lp85 : loopsIn (codeOf Try.f85) 0 = [] := by kernel_rfl
noncomputable def L85_0 (K : Nat) : Lib := mkLib ti [(32, [e32 K])] [] 85 []
theorem lib85_0 (K : Nat) : LibOk Try.prog (L85_0 K) := libOk_mk (ents := [(32, [e32 K])]) (bodies := []) (loops := []) order tiOk ⟨one_ent (e32_ok K), trivial⟩ trivial Try.func85 rfl lp85 trivial
noncomputable def implf85 (K : Nat) (x1 : (List Int)) : Option ((List Int) × Int) :=
  (ob (implf32 K x1) fun y1 => (bif y1 != (0 : Int) then some (([], y1)) else some ((x1, (0 : Int)))))
theorem q85 (K : Nat) (x1 : (List Int)) : evFnK (α := (List Int) × Int) (L85_0 K) 3 85 Try.f85.results.toList (codeOf Try.f85) ins85 res85 (fun p => (p.1.1, p.1.2.1)) (x1, ()) = implf85 K x1 := by kernel_rfl
noncomputable def e85 (K : Nat) : Ent := ⟨ins85, res85, (List Int) × Int, fun x => implf85 K x.1, fun _ => (fun y => ((y.1, y.2, ()), (()))), false⟩
theorem e85_ok (K : Nat) : EntOk Try.prog 85 (e85 K) := entOk_k (ins := ins85) (rs := res85) (α := (List Int) × Int) (lib85_0 K) (d := 3) Try.func85 rfl (by kernel_rfl) (by kernel_rfl) (by kernel_rfl) (fun x => implf85 K x.1) (fun p => (p.1.1, p.1.2.1)) (fun y => ((y.1, y.2, ()), (()))) (fun _ => rfl) (fun x => q85 K x.1)

/-! diaphone/echo.combined -/
abbrev ins58 : Fs := [(.dat (.sl (.int .i64)), false), (.dat (.sl (.int .i64)), false), (.dat (.int .i64), false)]
abbrev res58 : Sh := .cons (.dat (.sl (.int .i64))) (.cons (.dat (.int .i64)) (.un))
theorem lp58 : loopsIn (codeOf Try.f58) 0 = [(0, loopOf 0 (codeOf Try.f58)), (2, loopOf 2 (codeOf Try.f58))] := by kernel_rfl
noncomputable def L58_0 (K : Nat) : Lib := mkLib ti [(68, [e68 K]), (81, [e81 K]), (83, [e83 K]), (85, [e85 K]), (89, [e89 K])] [] 58 []
theorem lib58_0 (K : Nat) : LibOk Try.prog (L58_0 K) := libOk_mk (ents := [(68, [e68 K]), (81, [e81 K]), (83, [e83 K]), (85, [e85 K]), (89, [e89 K])]) (bodies := []) (loops := []) order tiOk ⟨one_ent (e68_ok K), one_ent (e81_ok K), one_ent (e83_ok K), one_ent (e85_ok K), one_ent (e89_ok K), trivial⟩ trivial Try.func58 rfl lp58 ⟨no_lent, no_lent, trivial⟩
abbrev i58_0 : Fs := [(.dat (.sl (.int Go.IntKind.i64)), false), (.dat (.int Go.IntKind.i64), false), (.own (.int .i64), true), (.dat (.sl (.int Go.IntKind.i64)), false), (.dat (.int Go.IntKind.i64), false), (.dat (.int Go.IntKind.i64), true)]
abbrev i58_2 : Fs := [(.dat (.sl (.int Go.IntKind.i64)), false), (.dat (.int Go.IntKind.i64), false), (.own (.int Go.IntKind.i64), true), (.dat (.int Go.IntKind.i64), false), (.dat (.sl (.int Go.IntKind.i64)), false), (.dat (.int Go.IntKind.i64), false), (.dat (.int Go.IntKind.i64), false), (.dat (.sl (.int Go.IntKind.i64)), false), (.dat (.int Go.IntKind.i64), false), (.dat (.int Go.IntKind.i64), true)]
noncomputable def implb58_2 (K : Nat) (rc : (List Int) → Int → (List Int) → Int → (List Int) → Int → Int → (List Int) → Int → Int → Option ((List Int) × Int × Unit)) (x1 : (List Int)) (x2 : Int) (x3 : (List Int)) (x4 : Int) (x5 : (List Int)) (x6 : Int) (x7 : Int) (x8 : (List Int)) (x9 : Int) (x10 : Int) : Option ((List Int) × Int × Unit) :=
  (bif decide (x10 < x9) then (if (0 : Int) ≤ x10 ∧ x10 < (↑x8.length : Int) then (if (x3.length + ((List.replicate 1 ((0 : Int))).set 0 (IntKind.i64.wrap (x4 + IntKind.i64.wrap (x2 * x8.getD x10.toNat ((0 : Int)))))).length) * 8 ≤ 140737488355328 then (rc x1 x2 (x3 ++ (List.replicate 1 ((0 : Int))).set 0 (IntKind.i64.wrap (x4 + IntKind.i64.wrap (x2 * x8.getD x10.toNat ((0 : Int)))))) x4 x5 x6 x7 x8 x9 (IntKind.i64.wrap (x10 + (1 : Int)))) else none) else none) else some ((x3, x10, ())))
noncomputable def impll58_2 (K : Nat) : Nat → (List Int) → Int → (List Int) → Int → (List Int) → Int → Int → (List Int) → Int → Int → Option ((List Int) × Int × Unit)
  | 0, _, _, _, _, _, _, _, _, _, _ => none
  | k + 1, x1, x2, x3, x4, x5, x6, x7, x8, x9, x10 => implb58_2 K (impll58_2 K k) x1 x2 x3 x4 x5 x6 x7 x8 x9 x10
noncomputable def n58_2 (K : Nat) : Lent := ⟨[1, 2, 9, 11, 20, 21, 22, 26, 27, 28], i58_2, [29, 30, 31, 13, 32, 33, 34, 35, 36, 37, 38, 39, 40], [2], false, res58, fun x => impll58_2 K K x.1 x.2.1 x.2.2.1 x.2.2.2.1 x.2.2.2.2.1 x.2.2.2.2.2.1 x.2.2.2.2.2.2.1 x.2.2.2.2.2.2.2.1 x.2.2.2.2.2.2.2.2.1 x.2.2.2.2.2.2.2.2.2.1, [], none⟩
theorem q58_2 (K : Nat) (rc : (List Int) → Int → (List Int) → Int → (List Int) → Int → Int → (List Int) → Int → Int → Option ((List Int) × Int × Unit)) (x1 : (List Int)) (x2 : Int) (x3 : (List Int)) (x4 : Int) (x5 : (List Int)) (x6 : Int) (x7 : Int) (x8 : (List Int)) (x9 : Int) (x10 : Int) : evLoop (L58_0 K) 3 58 Try.f58.results.toList (loopOf 2 (codeOf Try.f58)) 2 [1, 2, 9, 11, 20, 21, 22, 26, 27, 28] [] i58_2 [2] false res58 (fun x => rc x.1 x.2.1 x.2.2.1 x.2.2.2.1 x.2.2.2.2.1 x.2.2.2.2.2.1 x.2.2.2.2.2.2.1 x.2.2.2.2.2.2.2.1 x.2.2.2.2.2.2.2.2.1 x.2.2.2.2.2.2.2.2.2.1) (x1, x2, x3, x4, x5, x6, x7, x8, x9, x10, ()) = implb58_2 K rc x1 x2 x3 x4 x5 x6 x7 x8 x9 x10 := by kernel_rfl
theorem lp58_2 : loopsIn (loopOf 2 (codeOf Try.f58)) 2 = [] := by kernel_rfl
theorem n58_2_ok (K : Nat) : LentOk Try.prog Try.f58 (loopOf 2 (codeOf Try.f58)) (n58_2 K) := lentOk_k (slots := [1, 2, 9, 11, 20, 21, 22, 26, 27, 28]) (ali := []) (ins := i58_2) (writes := [29, 30, 31, 13, 32, 33, 34, 35, 36, 37, 38, 39, 40]) (exits := [2]) (rets := false) (rs := res58) (d := 3) (lib58_0 K) lp58_2 trivial (by kernel_rfl) (by kernel_rfl) (by kernel_rfl) (by kernel_rfl) (by kernel_rfl) (fun k x => impll58_2 K k x.1 x.2.1 x.2.2.1 x.2.2.2.1 x.2.2.2.2.1 x.2.2.2.2.2.1 x.2.2.2.2.2.2.1 x.2.2.2.2.2.2.2.1 x.2.2.2.2.2.2.2.2.1 x.2.2.2.2.2.2.2.2.2.1) (fun _ => rfl) (fun k x => q58_2 K (impll58_2 K k) x.1 x.2.1 x.2.2.1 x.2.2.2.1 x.2.2.2.2.1 x.2.2.2.2.2.1 x.2.2.2.2.2.2.1 x.2.2.2.2.2.2.2.1 x.2.2.2.2.2.2.2.2.1 x.2.2.2.2.2.2.2.2.2.1) K
noncomputable def L58_1 (K : Nat) : Lib := mkLib ti [(68, [e68 K]), (81, [e81 K]), (83, [e83 K]), (85, [e85 K]), (89, [e89 K])] [] 58 [(2, [n58_2 K])]
theorem lib58_1 (K : Nat) : LibOk Try.prog (L58_1 K) := libOk_mk (ents := [(68, [e68 K]), (81, [e81 K]), (83, [e83 K]), (85, [e85 K]), (89, [e89 K])]) (bodies := []) (loops := [(2, [n58_2 K])]) order tiOk ⟨one_ent (e68_ok K), one_ent (e81_ok K), one_ent (e83_ok K), one_ent (e85_ok K), one_ent (e89_ok K), trivial⟩ trivial Try.func58 rfl lp58 ⟨no_lent, one_lent (n58_2_ok K), trivial⟩
noncomputable def implb58_0 (K : Nat) (rc : (List Int) → Int → (List Int) → (List Int) → Int → Int → Option ((List Int) × Int × Unit)) (x1 : (List Int)) (x2 : Int) (x3 : (List Int)) (x4 : (List Int)) (x5 : Int) (x6 : Int) : Option ((List Int) × Int × Unit) :=
  (bif decide (x6 < x5) then (if (0 : Int) ≤ x6 ∧ x6 < (↑x4.length : Int) then (ob (impll58_2 K K x1 x2 x3 (x4.getD x6.toNat ((0 : Int))) x4 x5 x6 x1 ((↑x1.length : Int)) ((0 : Int))) fun y1 => (rc x1 x2 y1.1 x4 x5 (IntKind.i64.wrap (x6 + (1 : Int))))) else none) else some ((x3, x6, ())))
noncomputable def impll58_0 (K : Nat) : Nat → (List Int) → Int → (List Int) → (List Int) → Int → Int → Option ((List Int) × Int × Unit)
  | 0, _, _, _, _, _, _ => none
  | k + 1, x1, x2, x3, x4, x5, x6 => implb58_0 K (impll58_0 K k) x1 x2 x3 x4 x5 x6
noncomputable def n58_0 (K : Nat) : Lent := ⟨[1, 2, 9, 20, 21, 22], i58_0, [23, 24, 25, 11, 26, 27, 28, 29, 30, 31, 13, 32, 33, 34, 35, 36, 37, 38, 39, 40, 41], [0], false, res58, fun x => impll58_0 K K x.1 x.2.1 x.2.2.1 x.2.2.2.1 x.2.2.2.2.1 x.2.2.2.2.2.1, [], none⟩
theorem q58_0 (K : Nat) (rc : (List Int) → Int → (List Int) → (List Int) → Int → Int → Option ((List Int) × Int × Unit)) (x1 : (List Int)) (x2 : Int) (x3 : (List Int)) (x4 : (List Int)) (x5 : Int) (x6 : Int) : evLoop (L58_1 K) 3 58 Try.f58.results.toList (loopOf 0 (codeOf Try.f58)) 0 [1, 2, 9, 20, 21, 22] [] i58_0 [0] false res58 (fun x => rc x.1 x.2.1 x.2.2.1 x.2.2.2.1 x.2.2.2.2.1 x.2.2.2.2.2.1) (x1, x2, x3, x4, x5, x6, ()) = implb58_0 K rc x1 x2 x3 x4 x5 x6 := by kernel_rfl
theorem lp58_0 : loopsIn (loopOf 0 (codeOf Try.f58)) 0 = [(2, loopOf 2 (codeOf Try.f58))] := by kernel_rfl
theorem n58_0_ok (K : Nat) : LentOk Try.prog Try.f58 (loopOf 0 (codeOf Try.f58)) (n58_0 K) := lentOk_k (slots := [1, 2, 9, 20, 21, 22]) (ali := []) (ins := i58_0) (writes := [23, 24, 25, 11, 26, 27, 28, 29, 30, 31, 13, 32, 33, 34, 35, 36, 37, 38, 39, 40, 41]) (exits := [0]) (rets := false) (rs := res58) (d := 3) (lib58_1 K) lp58_0 ⟨one_lent (n58_2_ok K), trivial⟩ (by kernel_rfl) (by kernel_rfl) (by kernel_rfl) (by kernel_rfl) (by kernel_rfl) (fun k x => impll58_0 K k x.1 x.2.1 x.2.2.1 x.2.2.2.1 x.2.2.2.2.1 x.2.2.2.2.2.1) (fun _ => rfl) (fun k x => q58_0 K (impll58_0 K k) x.1 x.2.1 x.2.2.1 x.2.2.2.1 x.2.2.2.2.1 x.2.2.2.2.2.1) K
noncomputable def L58_2 (K : Nat) : Lib := mkLib ti [(68, [e68 K]), (81, [e81 K]), (83, [e83 K]), (85, [e85 K]), (89, [e89 K])] [] 58 [(2, [n58_2 K]), (0, [n58_0 K])]
theorem lib58_2 (K : Nat) : LibOk Try.prog (L58_2 K) := libOk_mk (ents := [(68, [e68 K]), (81, [e81 K]), (83, [e83 K]), (85, [e85 K]), (89, [e89 K])]) (bodies := []) (loops := [(2, [n58_2 K]), (0, [n58_0 K])]) order tiOk ⟨one_ent (e68_ok K), one_ent (e81_ok K), one_ent (e83_ok K), one_ent (e85_ok K), one_ent (e89_ok K), trivial⟩ trivial Try.func58 rfl lp58 ⟨one_lent (n58_0_ok K), one_lent (n58_2_ok K), trivial⟩
noncomputable def implf58 (K : Nat) (x1 : (List Int)) (x2 : (List Int)) (x3 : Int) : Option ((List Int) × Int) :=
  (ob (implf68 K x1 x2) fun y1 => (bif y1 != (0 : Int) then some (([], y1)) else (ob (impll58_0 K K x2 x3 [] x1 ((↑x1.length : Int)) ((0 : Int))) fun y2 => (ob (implf81 K y2.1) fun y3 => (ob (implf83 K y3) fun y4 => (ob (implf89 K y4) fun y5 => (bif decide ((↑y5.length : Int) < (↑y3.length : Int)) then some (([], (5 : Int))) else (ob (implf85 K y3) fun y6 => some ((y6.1, y6.2))))))))))
theorem q58 (K : Nat) (x1 : (List Int)) (x2 : (List Int)) (x3 : Int) : evFnK (α := (List Int) × Int) (L58_2 K) 3 58 Try.f58.results.toList (codeOf Try.f58) ins58 res58 (fun p => (p.1.1, p.1.2.1)) (x1, x2, x3, ()) = implf58 K x1 x2 x3 := by kernel_rfl
noncomputable def e58 (K : Nat) : Ent := ⟨ins58, res58, (List Int) × Int, fun x => implf58 K x.1 x.2.1 x.2.2.1, fun _ => (fun y => ((y.1, y.2, ()), (()))), false⟩
theorem e58_ok (K : Nat) : EntOk Try.prog 58 (e58 K) := entOk_k (ins := ins58) (rs := res58) (α := (List Int) × Int) (lib58_2 K) (d := 3) Try.func58 rfl (by kernel_rfl) (by kernel_rfl) (by kernel_rfl) (fun x => implf58 K x.1 x.2.1 x.2.2.1) (fun p => (p.1.1, p.1.2.1)) (fun y => ((y.1, y.2, ()), (()))) (fun _ => rfl) (fun x => q58 K x.1 x.2.1 x.2.2.1)

/-! diaphone/diaphoneref05.SameInts -/
abbrev ins24 : Fs := [(.dat (.sl (.int .i64)), false), (.dat (.sl (.int .i64)), false)]
abbrev res24 : Sh := .dat (.bool)
theorem lp24 : loopsIn (codeOf Try.f24) 0 = [(0, loopOf 0 (codeOf Try.f24))] := by kernel_rfl
noncomputable def L24_0 (K : Nat) : Lib := mkLib ti [] [] 24 []
theorem lib24_0 (K : Nat) : LibOk Try.prog (L24_0 K) := libOk_mk (ents := []) (bodies := []) (loops := []) order tiOk trivial trivial Try.func24 rfl lp24 ⟨no_lent, trivial⟩
abbrev i24_0 : Fs := [(.dat (.sl (.int Go.IntKind.i64)), false), (.dat (.sl (.int Go.IntKind.i64)), false), (.dat (.int Go.IntKind.i64), true)]
noncomputable def implb24_0 (K : Nat) (rc : (List Int) → (List Int) → Int → Option (Sum (Int × Unit) Bool)) (x1 : (List Int)) (x2 : (List Int)) (x3 : Int) : Option (Sum (Int × Unit) Bool) :=
  (bif decide (x3 < (↑x1.length : Int)) then (if (0 : Int) ≤ x3 ∧ x3 < (↑x1.length : Int) then (if (0 : Int) ≤ x3 ∧ x3 < (↑x2.length : Int) then (bif x1.getD x3.toNat ((0 : Int)) != x2.getD x3.toNat ((0 : Int)) then some (Sum.inr false) else (rc x1 x2 (IntKind.i64.wrap (x3 + (1 : Int))))) else none) else none) else some (Sum.inl (x3, ())))
noncomputable def impll24_0 (K : Nat) : Nat → (List Int) → (List Int) → Int → Option (Sum (Int × Unit) Bool)
  | 0, _, _, _ => none
  | k + 1, x1, x2, x3 => implb24_0 K (impll24_0 K k) x1 x2 x3
noncomputable def n24_0 (K : Nat) : Lent := ⟨[0, 1, 5], i24_0, [11, 12, 13, 14, 17, 18, 19, 20, 21, 22, 23, 24, 25, 4, 15, 16], [0], true, res24, fun x => impll24_0 K K x.1 x.2.1 x.2.2.1, [], none⟩
theorem q24_0 (K : Nat) (rc : (List Int) → (List Int) → Int → Option (Sum (Int × Unit) Bool)) (x1 : (List Int)) (x2 : (List Int)) (x3 : Int) : evLoop (L24_0 K) 3 24 Try.f24.results.toList (loopOf 0 (codeOf Try.f24)) 0 [0, 1, 5] [] i24_0 [0] true res24 (fun x => rc x.1 x.2.1 x.2.2.1) (x1, x2, x3, ()) = implb24_0 K rc x1 x2 x3 := by kernel_rfl
theorem lp24_0 : loopsIn (loopOf 0 (codeOf Try.f24)) 0 = [] := by kernel_rfl
theorem n24_0_ok (K : Nat) : LentOk Try.prog Try.f24 (loopOf 0 (codeOf Try.f24)) (n24_0 K) := lentOk_k (slots := [0, 1, 5]) (ali := []) (ins := i24_0) (writes := [11, 12, 13, 14, 17, 18, 19, 20, 21, 22, 23, 24, 25, 4, 15, 16]) (exits := [0]) (rets := true) (rs := res24) (d := 3) (lib24_0 K) lp24_0 trivial (by kernel_rfl) (by kernel_rfl) (by kernel_rfl) (by kernel_rfl) (by kernel_rfl) (fun k x => impll24_0 K k x.1 x.2.1 x.2.2.1) (fun _ => rfl) (fun k x => q24_0 K (impll24_0 K k) x.1 x.2.1 x.2.2.1) K
noncomputable def L24_1 (K : Nat) : Lib := mkLib ti [] [] 24 [(0, [n24_0 K])]
theorem lib24_1 (K : Nat) : LibOk Try.prog (L24_1 K) := libOk_mk (ents := []) (bodies := []) (loops := [(0, [n24_0 K])]) order tiOk trivial trivial Try.func24 rfl lp24 ⟨one_lent (n24_0_ok K), trivial⟩
noncomputable def implf24 (K : Nat) (x1 : (List Int)) (x2 : (List Int)) : Option (Bool) :=
  (bif (↑x1.length : Int) != (↑x2.length : Int) then some (false) else (ob (impll24_0 K K x1 x2 ((0 : Int))) fun y1 => (match y1 with | .inl y2 => some (true) | .inr y2 => some (y2))))
theorem q24 (K : Nat) (x1 : (List Int)) (x2 : (List Int)) : evFnK (α := Bool) (L24_1 K) 3 24 Try.f24.results.toList (codeOf Try.f24) ins24 res24 (fun p => p.1) (x1, x2, ()) = implf24 K x1 x2 := by kernel_rfl
noncomputable def e24 (K : Nat) : Ent := ⟨ins24, res24, Bool, fun x => implf24 K x.1 x.2.1, fun _ => (fun y => (y, (()))), false⟩
theorem e24_ok (K : Nat) : EntOk Try.prog 24 (e24 K) := entOk_k (ins := ins24) (rs := res24) (α := Bool) (lib24_1 K) (d := 3) Try.func24 rfl (by kernel_rfl) (by kernel_rfl) (by kernel_rfl) (fun x => implf24 K x.1 x.2.1) (fun p => p.1) (fun y => (y, (()))) (fun _ => rfl) (fun x => q24 K x.1 x.2.1)

end Go.Proofs.Ytdgibokmaannjaa
