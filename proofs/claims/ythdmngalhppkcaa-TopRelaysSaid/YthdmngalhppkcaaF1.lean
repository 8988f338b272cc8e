/- What the functions compute: printed by a program of this claim's author. -/
import Derived.Test.YthdmngalhppkcaaR2
set_option maxRecDepth 100000
set_option linter.unusedVariables false
set_option linter.unusedSimpArgs false
namespace Go.Proofs.Ythdmngalhppkcaa
open Go Go.Pv

/-! diaphone/relay.within -/
abbrev ins61 : Fs := [(.dat (.int .i64), false), (.dat (.int .i64), false), (.dat (.int .i64), false)]
abbrev res61 : Sh := .dat (.bool)
theorem lp61 : loopsIn (codeOf Try.f61) 0 = [] := by kernel_rfl
noncomputable def L61_0 (K : Nat) : Lib := mkLib ti [] [] 61 []
theorem lib61_0 (K : Nat) : LibOk Try.prog (L61_0 K) := libOk_mk (ents := []) (bodies := []) (loops := []) order tiOk trivial trivial Try.func61 rfl lp61 trivial
noncomputable def implf61 (K : Nat) (x1 : Int) (x2 : Int) (x3 : Int) : Option (Bool) :=
  (bif decide (x2 ≤ x1) then some (decide (x1 ≤ x3)) else some (false))
theorem q61 (K : Nat) (x1 : Int) (x2 : Int) (x3 : Int) : evFnK (α := Bool) (L61_0 K) 3 61 Try.f61.results.toList (codeOf Try.f61) ins61 res61 (fun p => p.1) (x1, x2, x3, ()) = implf61 K x1 x2 x3 := by kernel_rfl
noncomputable def e61 (K : Nat) : Ent := ⟨ins61, res61, Bool, fun x => implf61 K x.1 x.2.1 x.2.2.1, fun _ => (fun y => (y, (()))), false⟩
theorem e61_ok (K : Nat) : EntOk Try.prog 61 (e61 K) := entOk_k (ins := ins61) (rs := res61) (α := Bool) (lib61_0 K) (d := 3) Try.func61 rfl (by kernel_rfl) (by kernel_rfl) (by kernel_rfl) (fun x => implf61 K x.1 x.2.1 x.2.2.1) (fun p => p.1) (fun y => (y, (()))) (fun _ => rfl) (fun x => q61 K x.1 x.2.1 x.2.2.1)

/-! diaphone/relay.Validate -/
abbrev ins30 : Fs := [(.dat (.pr (.sl (.arr 2 (.int .i64))) (.sl (.int .i64))), false)]
abbrev res30 : Sh := .dat (.int .i64)
theorem lp30 : loopsIn (codeOf Try.f30) 0 = [(0, loopOf 0 (codeOf Try.f30))] := by kernel_rfl
noncomputable def L30_0 (K : Nat) : Lib := mkLib ti [(61, [e61 K])] [] 30 []
theorem lib30_0 (K : Nat) : LibOk Try.prog (L30_0 K) := libOk_mk (ents := [(61, [e61 K])]) (bodies := []) (loops := []) order tiOk ⟨one_ent (e61_ok K), trivial⟩ trivial Try.func30 rfl lp30 ⟨no_lent, trivial⟩
abbrev i30_0 : Fs := [(.box (.dat (.pr (.sl (.arr 2 (.int Go.IntKind.i64))) (.sl (.int Go.IntKind.i64)))), false), (.dat (.sl (.arr 2 (.int Go.IntKind.i64))), false), (.dat (.int Go.IntKind.i64), false), (.dat (.int Go.IntKind.i64), true)]
noncomputable def implb30_0 (K : Nat) (rc : ((List (List Int)) × (List Int)) → (List (List Int)) → Int → Int → Option (Sum (Int × Unit) Int)) (x1 : ((List (List Int)) × (List Int))) (x2 : (List (List Int))) (x3 : Int) (x4 : Int) : Option (Sum (Int × Unit) Int) :=
  (bif decide (x4 < x3) then (if (0 : Int) ≤ x4 ∧ x4 < (↑x2.length : Int) then (ob (implf61 K ((x2.getD x4.toNat (List.replicate 2 ((0 : Int)))).getD (0) ((0 : Int))) ((0 : Int)) (IntKind.i64.wrap ((↑x1.1.length : Int) - (1 : Int)))) fun y1 => (bif !y1 then some (Sum.inr ((1 : Int))) else (ob (implf61 K ((x2.getD x4.toNat (List.replicate 2 ((0 : Int)))).getD (1) ((0 : Int))) ((0 : Int)) (IntKind.i64.wrap ((↑x1.1.length : Int) - (1 : Int)))) fun y2 => (bif !y2 then some (Sum.inr ((1 : Int))) else (if (0 : Int) ≤ x4 ∧ x4 < (↑x1.2.length : Int) then (ob (implf61 K (x1.2.getD x4.toNat ((0 : Int))) ((0 : Int)) ((3 : Int))) fun y3 => (bif !y3 then some (Sum.inr ((1 : Int))) else (rc x1 x2 x3 (IntKind.i64.wrap (x4 + (1 : Int)))))) else none))))) else none) else some (Sum.inl (x4, ())))
noncomputable def impll30_0 (K : Nat) : Nat → ((List (List Int)) × (List Int)) → (List (List Int)) → Int → Int → Option (Sum (Int × Unit) Int)
  | 0, _, _, _, _ => none
  | k + 1, x1, x2, x3, x4 => implb30_0 K (impll30_0 K k) x1 x2 x3 x4
noncomputable def n30_0 (K : Nat) : Lent := ⟨[1, 20, 21, 22], i30_0, [23, 24, 25, 26, 4, 3, 27, 28, 29, 30, 31, 32, 33, 34, 35, 36, 37, 38, 39, 40, 41, 42, 43, 44, 45, 46, 47, 48, 49, 50, 51, 52, 53, 2, 54], [0], true, res30, fun x => impll30_0 K K x.1 x.2.1 x.2.2.1 x.2.2.2.1, [], none⟩
theorem q30_0 (K : Nat) (rc : ((List (List Int)) × (List Int)) → (List (List Int)) → Int → Int → Option (Sum (Int × Unit) Int)) (x1 : ((List (List Int)) × (List Int))) (x2 : (List (List Int))) (x3 : Int) (x4 : Int) : evLoop (L30_0 K) 3 30 Try.f30.results.toList (loopOf 0 (codeOf Try.f30)) 0 [1, 20, 21, 22] [] i30_0 [0] true res30 (fun x => rc x.1 x.2.1 x.2.2.1 x.2.2.2.1) (x1, x2, x3, x4, ()) = implb30_0 K rc x1 x2 x3 x4 := by kernel_rfl
theorem lp30_0 : loopsIn (loopOf 0 (codeOf Try.f30)) 0 = [] := by kernel_rfl
theorem n30_0_ok (K : Nat) : LentOk Try.prog Try.f30 (loopOf 0 (codeOf Try.f30)) (n30_0 K) := lentOk_k (slots := [1, 20, 21, 22]) (ali := []) (ins := i30_0) (writes := [23, 24, 25, 26, 4, 3, 27, 28, 29, 30, 31, 32, 33, 34, 35, 36, 37, 38, 39, 40, 41, 42, 43, 44, 45, 46, 47, 48, 49, 50, 51, 52, 53, 2, 54]) (exits := [0]) (rets := true) (rs := res30) (d := 3) (lib30_0 K) lp30_0 trivial (by kernel_rfl) (by kernel_rfl) (by kernel_rfl) (by kernel_rfl) (by kernel_rfl) (fun k x => impll30_0 K k x.1 x.2.1 x.2.2.1 x.2.2.2.1) (fun _ => rfl) (fun k x => q30_0 K (impll30_0 K k) x.1 x.2.1 x.2.2.1 x.2.2.2.1) K
noncomputable def L30_1 (K : Nat) : Lib := mkLib ti [(61, [e61 K])] [] 30 [(0, [n30_0 K])]
theorem lib30_1 (K : Nat) : LibOk Try.prog (L30_1 K) := libOk_mk (ents := [(61, [e61 K])]) (bodies := []) (loops := [(0, [n30_0 K])]) order tiOk ⟨one_ent (e61_ok K), trivial⟩ trivial Try.func30 rfl lp30 ⟨one_lent (n30_0_ok K), trivial⟩
noncomputable def implf30 (K : Nat) (x1 : ((List (List Int)) × (List Int))) : Option (Int) :=
  (ob (implf61 K ((↑x1.1.length : Int)) ((1 : Int)) ((6 : Int))) fun y1 => (bif !y1 then some ((1 : Int)) else (bif (↑x1.2.length : Int) != (↑x1.1.length : Int) then some ((1 : Int)) else (ob (impll30_0 K K x1 x1.1 ((↑x1.1.length : Int)) ((0 : Int))) fun y2 => (match y2 with | .inl y3 => some ((0 : Int)) | .inr y3 => some (y3))))))
theorem q30 (K : Nat) (x1 : ((List (List Int)) × (List Int))) : evFnK (α := Int) (L30_1 K) 3 30 Try.f30.results.toList (codeOf Try.f30) ins30 res30 (fun p => p.1) (x1, ()) = implf30 K x1 := by kernel_rfl
noncomputable def e30 (K : Nat) : Ent := ⟨ins30, res30, Int, fun x => implf30 K x.1, fun _ => (fun y => (y, (()))), false⟩
theorem e30_ok (K : Nat) : EntOk Try.prog 30 (e30 K) := entOk_k (ins := ins30) (rs := res30) (α := Int) (lib30_1 K) (d := 3) Try.func30 rfl (by kernel_rfl) (by kernel_rfl) (by kernel_rfl) (fun x => implf30 K x.1) (fun p => p.1) (fun y => (y, (()))) (fun _ => rfl) (fun x => q30 K x.1)

/-! slices.Clone[[]int,int] -/
abbrev ins66 : Fs := [(.dat (.sl (.int .i64)), false)]
abbrev res66 : Sh := .own (.int .i64)
noncomputable def implf66 (K : Nat) (x1 : List Int) : Option (List Int) := if ((List.replicate 0 (Ty.dflt (.int .i64))).length + x1.length) * 8 ≤ 140737488355328 then some (List.replicate 0 (Ty.dflt (.int .i64)) ++ x1) else none
noncomputable def e66 (K : Nat) : Ent := ⟨ins66, res66, List Int, fun x => implf66 K x.1, fun _ => (fun y => (y, ())), false⟩
noncomputable def CC66 : Code := match codeOf Try.f66 with | .seq _ (.seq (.seq _ (.cond _ x _)) _) => x | _ => .skip
noncomputable def YY66 : Code := match codeOf Try.f66 with | .seq _ (.seq _ y) => y | _ => .skip
noncomputable def L66_0 (K : Nat) : Lib := mkLib ti [] [] 66 []
theorem lp66 : loopsIn (codeOf Try.f66) 0 = [] := by kernel_rfl
theorem lib66_0 (K : Nat) : LibOk Try.prog (L66_0 K) := libOk_mk (ents := []) (bodies := []) (loops := []) order tiOk trivial trivial Try.func66 rfl lp66 trivial
theorem e66_ok (K : Nat) : EntOk Try.prog 66 (e66 K) := by
  refine clone_ok (e := .int .i64) (rs := .own (.int .i64)) (lib66_0 K) Try.func66 rfl (by kernel_rfl) (by kernel_rfl) lp66 Try.underlying23 rfl (fun x => implf66 K x) (fun y => (y, ())) (fun xs => by kernel_rfl) ?_
  intro xs b y hy hb
  cases b with
  | true =>
    have := hb rfl
    subst this
    have : y = [] := by
      unfold implf66 at hy
      split at hy
      · cases hy; rfl
      · cases hy
    subst this
    refine Eq.trans (b := some (([] : List Int), ())) ?_ rfl
    kernel_rfl
  | false =>
    unfold implf66 at hy
    split at hy
    · rename_i h
      cases hy
      have e1 : ∀ xs : List Int, ev (L66_0 K) (inPlace (L66_0 K) 1) 66 Try.f66.results.toList (.seq (.cond (.tmp 4) CC66 .skip) YY66) 0 (fun ex st => match ex with | .normal => ob (resAV (L66_0 K) st Try.f66.results.toList) fun v => finish [(.dat (.sl (.int .i64)), false)] (.own (.int .i64)) (.cons (.dat (.sl (.int .i64)) xs) .un) [] (resOne v) st | _ => none) (fun v st => finish [(.dat (.sl (.int .i64)), false)] (.own (.int .i64)) (.cons (.dat (.sl (.int .i64)) xs) .un) [] v st) ⟨[(4, .dat .bool false), (3, .dat (.sl (.int .i64)) xs), (2, .nil), (0, .dat (.sl (.int .i64)) xs)], [], 0⟩ = (if ((List.replicate 0 (Ty.dflt (.int .i64))).length + xs.length) * 8 ≤ 140737488355328 then some (List.replicate 0 (Ty.dflt (.int .i64)) ++ xs, ()) else none) := fun xs => by kernel_rfl
      exact (e1 xs).trans (if_pos h)
    · cases hy

/-! diaphone/relay.words -/
abbrev ins83 : Fs := [(.dat (.pr (.sl (.arr 2 (.int .i64))) (.sl (.int .i64))), false)]
abbrev res83 : Sh := .map (.int .i64) (.sl (.int .i64))
theorem lp83 : loopsIn (codeOf Try.f83) 0 = [(0, loopOf 0 (codeOf Try.f83)), (2, loopOf 2 (codeOf Try.f83))] := by kernel_rfl
noncomputable def L83_0 (K : Nat) : Lib := mkLib ti [(66, [e66 K])] [] 83 []
theorem lib83_0 (K : Nat) : LibOk Try.prog (L83_0 K) := libOk_mk (ents := [(66, [e66 K])]) (bodies := []) (loops := []) order tiOk ⟨one_ent (e66_ok K), trivial⟩ trivial Try.func83 rfl lp83 ⟨no_lent, no_lent, trivial⟩
abbrev i83_0 : Fs := [(.box (.dat (.pr (.sl (.arr 2 (.int Go.IntKind.i64))) (.sl (.int Go.IntKind.i64)))), false), (.map (.int Go.IntKind.i64) (.sl (.int Go.IntKind.i64)), true), (.own (.int Go.IntKind.i64), true)]
abbrev i83_2 : Fs := [(.box (.dat (.pr (.sl (.arr 2 (.int Go.IntKind.i64))) (.sl (.int Go.IntKind.i64)))), false), (.map (.int Go.IntKind.i64) (.sl (.int Go.IntKind.i64)), true), (.own (.int Go.IntKind.i64), true), (.dat (.int Go.IntKind.i64), false), (.dat (.arr 2 (.int Go.IntKind.i64)), false), (.dat (.int Go.IntKind.i64), true)]
noncomputable def implb83_2 (K : Nat) (rc : ((List (List Int)) × (List Int)) → (List (Int × (List Int))) → (List Int) → Int → (List Int) → Int → Option ((List (Int × (List Int))) × (List Int) × Int × Unit)) (x1 : ((List (List Int)) × (List Int))) (x2 : (List (Int × (List Int)))) (x3 : (List Int)) (x4 : Int) (x5 : (List Int)) (x6 : Int) : Option ((List (Int × (List Int))) × (List Int) × Int × Unit) :=
  (bif decide (x6 < (2 : Int)) then (if (0 : Int) ≤ x6 ∧ x6 < (2 : Int) then (bif !(mget (Ty.int IntKind.i64) (Ty.int IntKind.i64).sl x2 (x5.getD x6.toNat ((0 : Int)))).isSome then (ob (implf66 K
  (match mget (Ty.int IntKind.i64) (Ty.int IntKind.i64).sl x2 x4 with
  | some x => x
  | none => [])) fun y1 => (if (y1.length + ((List.replicate 1 ((0 : Int))).set 0 x6).length) * 8 ≤ 140737488355328 then (if (x3.length + ((List.replicate 1 ((0 : Int))).set 0 (x5.getD x6.toNat ((0 : Int)))).length) * 8 ≤ 140737488355328 then (rc x1 (mset (Ty.int IntKind.i64) (Ty.int IntKind.i64).sl x2 (x5.getD x6.toNat ((0 : Int))) (y1 ++ (List.replicate 1 ((0 : Int))).set 0 x6)) (x3 ++ (List.replicate 1 ((0 : Int))).set 0 (x5.getD x6.toNat ((0 : Int)))) x4 x5 (IntKind.i64.wrap (x6 + (1 : Int)))) else none) else none)) else (rc x1 x2 x3 x4 x5 (IntKind.i64.wrap (x6 + (1 : Int))))) else none) else some ((x2, x3, x6, ())))
noncomputable def impll83_2 (K : Nat) : Nat → ((List (List Int)) × (List Int)) → (List (Int × (List Int))) → (List Int) → Int → (List Int) → Int → Option ((List (Int × (List Int))) × (List Int) × Int × Unit)
  | 0, _, _, _, _, _, _ => none
  | k + 1, x1, x2, x3, x4, x5, x6 => implb83_2 K (impll83_2 K k) x1 x2 x3 x4 x5 x6
noncomputable def n83_2 (K : Nat) : Lent := ⟨[1, 3, 4, 5, 25, 26], i83_2, [27, 28, 29, 6, 7, 31, 32, 33, 30, 34, 35, 8, 9, 36, 37, 38, 39, 40, 41, 42, 43, 44, 45, 46, 47, 48, 49, 50, 51], [2], false, res83, fun x => impll83_2 K K x.1 x.2.1 x.2.2.1 x.2.2.2.1 x.2.2.2.2.1 x.2.2.2.2.2.1, [], none⟩
theorem q83_2 (K : Nat) (rc : ((List (List Int)) × (List Int)) → (List (Int × (List Int))) → (List Int) → Int → (List Int) → Int → Option ((List (Int × (List Int))) × (List Int) × Int × Unit)) (x1 : ((List (List Int)) × (List Int))) (x2 : (List (Int × (List Int)))) (x3 : (List Int)) (x4 : Int) (x5 : (List Int)) (x6 : Int) : evLoop (L83_0 K) 3 83 Try.f83.results.toList (loopOf 2 (codeOf Try.f83)) 2 [1, 3, 4, 5, 25, 26] [] i83_2 [2] false res83 (fun x => rc x.1 x.2.1 x.2.2.1 x.2.2.2.1 x.2.2.2.2.1 x.2.2.2.2.2.1) (x1, x2, x3, x4, x5, x6, ()) = implb83_2 K rc x1 x2 x3 x4 x5 x6 := by kernel_rfl
theorem lp83_2 : loopsIn (loopOf 2 (codeOf Try.f83)) 2 = [] := by kernel_rfl
theorem n83_2_ok (K : Nat) : LentOk Try.prog Try.f83 (loopOf 2 (codeOf Try.f83)) (n83_2 K) := lentOk_k (slots := [1, 3, 4, 5, 25, 26]) (ali := []) (ins := i83_2) (writes := [27, 28, 29, 6, 7, 31, 32, 33, 30, 34, 35, 8, 9, 36, 37, 38, 39, 40, 41, 42, 43, 44, 45, 46, 47, 48, 49, 50, 51]) (exits := [2]) (rets := false) (rs := res83) (d := 3) (lib83_0 K) lp83_2 trivial (by kernel_rfl) (by kernel_rfl) (by kernel_rfl) (by kernel_rfl) (by kernel_rfl) (fun k x => impll83_2 K k x.1 x.2.1 x.2.2.1 x.2.2.2.1 x.2.2.2.2.1 x.2.2.2.2.2.1) (fun _ => rfl) (fun k x => q83_2 K (impll83_2 K k) x.1 x.2.1 x.2.2.1 x.2.2.2.1 x.2.2.2.2.1 x.2.2.2.2.2.1) K
noncomputable def L83_1 (K : Nat) : Lib := mkLib ti [(66, [e66 K])] [] 83 [(2, [n83_2 K])]
theorem lib83_1 (K : Nat) : LibOk Try.prog (L83_1 K) := libOk_mk (ents := [(66, [e66 K])]) (bodies := []) (loops := [(2, [n83_2 K])]) order tiOk ⟨one_ent (e66_ok K), trivial⟩ trivial Try.func83 rfl lp83 ⟨no_lent, one_lent (n83_2_ok K), trivial⟩
noncomputable def implb83_0 (K : Nat) (rc : ((List (List Int)) × (List Int)) → (List (Int × (List Int))) → (List Int) → Option ((List (Int × (List Int))) × (List Int) × Unit)) (x1 : ((List (List Int)) × (List Int))) (x2 : (List (Int × (List Int)))) (x3 : (List Int)) : Option ((List (Int × (List Int))) × (List Int) × Unit) :=
  (bif decide ((↑x3.length : Int) > (0 : Int)) then (if (0 : Int) ≤ (0 : Int) ∧ (0 : Int) < (↑x3.length : Int) then (if (0 : Int) ≤ (1 : Int) ∧ (1 : Int) ≤ (↑x3.length : Int) ∧ (↑x3.length : Int) ≤ (↑x3.length : Int) then (if (0 : Int) ≤ x3.getD (0) ((0 : Int)) ∧ x3.getD (0) ((0 : Int)) < (↑x1.1.length : Int) then (ob (impll83_2 K K x1 x2 (List.drop (1) x3) (x3.getD (0) ((0 : Int))) (x1.1.getD (x3.getD (0) ((0 : Int))).toNat (List.replicate 2 ((0 : Int)))) ((0 : Int))) fun y1 => (rc x1 y1.1 y1.2.1)) else none) else none) else none) else some ((x2, x3, ())))
noncomputable def impll83_0 (K : Nat) : Nat → ((List (List Int)) × (List Int)) → (List (Int × (List Int))) → (List Int) → Option ((List (Int × (List Int))) × (List Int) × Unit)
  | 0, _, _, _ => none
  | k + 1, x1, x2, x3 => implb83_0 K (impll83_0 K k) x1 x2 x3
noncomputable def n83_0 (K : Nat) : Lent := ⟨[1, 3, 4], i83_0, [13, 14, 15, 16, 17, 18, 5, 19, 20, 21, 22, 23, 24, 25, 26, 27, 28, 29, 6, 7, 31, 32, 33, 30, 34, 35, 8, 9, 36, 37, 38, 39, 40, 41, 42, 43, 44, 45, 46, 47, 48, 49, 50, 51], [0], false, res83, fun x => impll83_0 K K x.1 x.2.1 x.2.2.1, [], none⟩
theorem q83_0 (K : Nat) (rc : ((List (List Int)) × (List Int)) → (List (Int × (List Int))) → (List Int) → Option ((List (Int × (List Int))) × (List Int) × Unit)) (x1 : ((List (List Int)) × (List Int))) (x2 : (List (Int × (List Int)))) (x3 : (List Int)) : evLoop (L83_1 K) 3 83 Try.f83.results.toList (loopOf 0 (codeOf Try.f83)) 0 [1, 3, 4] [] i83_0 [0] false res83 (fun x => rc x.1 x.2.1 x.2.2.1) (x1, x2, x3, ()) = implb83_0 K rc x1 x2 x3 := by kernel_rfl
theorem lp83_0 : loopsIn (loopOf 0 (codeOf Try.f83)) 0 = [(2, loopOf 2 (codeOf Try.f83))] := by kernel_rfl
theorem n83_0_ok (K : Nat) : LentOk Try.prog Try.f83 (loopOf 0 (codeOf Try.f83)) (n83_0 K) := lentOk_k (slots := [1, 3, 4]) (ali := []) (ins := i83_0) (writes := [13, 14, 15, 16, 17, 18, 5, 19, 20, 21, 22, 23, 24, 25, 26, 27, 28, 29, 6, 7, 31, 32, 33, 30, 34, 35, 8, 9, 36, 37, 38, 39, 40, 41, 42, 43, 44, 45, 46, 47, 48, 49, 50, 51]) (exits := [0]) (rets := false) (rs := res83) (d := 3) (lib83_1 K) lp83_0 ⟨one_lent (n83_2_ok K), trivial⟩ (by kernel_rfl) (by kernel_rfl) (by kernel_rfl) (by kernel_rfl) (by kernel_rfl) (fun k x => impll83_0 K k x.1 x.2.1 x.2.2.1) (fun _ => rfl) (fun k x => q83_0 K (impll83_0 K k) x.1 x.2.1 x.2.2.1) K
noncomputable def L83_2 (K : Nat) : Lib := mkLib ti [(66, [e66 K])] [] 83 [(2, [n83_2 K]), (0, [n83_0 K])]
theorem lib83_2 (K : Nat) : LibOk Try.prog (L83_2 K) := libOk_mk (ents := [(66, [e66 K])]) (bodies := []) (loops := [(2, [n83_2 K]), (0, [n83_0 K])]) order tiOk ⟨one_ent (e66_ok K), trivial⟩ trivial Try.func83 rfl lp83 ⟨one_lent (n83_0_ok K), one_lent (n83_2_ok K), trivial⟩
noncomputable def implf83 (K : Nat) (x1 : ((List (List Int)) × (List Int))) : Option ((List (Int × (List Int)))) :=
  (ob (impll83_0 K K x1 [((0 : Int), [])] ((List.replicate 1 ((0 : Int))).set 0 ((0 : Int)))) fun y1 => some (y1.1))
theorem q83 (K : Nat) (x1 : ((List (List Int)) × (List Int))) : evFnK (α := (List (Int × (List Int)))) (L83_2 K) 3 83 Try.f83.results.toList (codeOf Try.f83) ins83 res83 (fun p => p.1) (x1, ()) = implf83 K x1 := by kernel_rfl
noncomputable def e83 (K : Nat) : Ent := ⟨ins83, res83, (List (Int × (List Int))), fun x => implf83 K x.1, fun _ => (fun y => (y, (()))), false⟩
theorem e83_ok (K : Nat) : EntOk Try.prog 83 (e83 K) := entOk_k (ins := ins83) (rs := res83) (α := (List (Int × (List Int)))) (lib83_2 K) (d := 3) Try.func83 rfl (by kernel_rfl) (by kernel_rfl) (by kernel_rfl) (fun x => implf83 K x.1) (fun p => p.1) (fun y => (y, (()))) (fun _ => rfl) (fun x => q83 K x.1)

/-! diaphone/diaphonelaw08.Long -/
abbrev ins19 : Fs := [(.dat (.pr (.sl (.arr 2 (.int .i64))) (.sl (.int .i64))), false), (.dat (.sl (.sl (.int .i64))), false)]
abbrev res19 : Sh := .dat (.bool)
theorem lp19 : loopsIn (codeOf Try.f19) 0 = [(0, loopOf 0 (codeOf Try.f19))] := by kernel_rfl
noncomputable def L19_0 (K : Nat) : Lib := mkLib ti [] [] 19 []
theorem lib19_0 (K : Nat) : LibOk Try.prog (L19_0 K) := libOk_mk (ents := []) (bodies := []) (loops := []) order tiOk trivial trivial Try.func19 rfl lp19 ⟨no_lent, trivial⟩
abbrev i19_0 : Fs := [(.dat (.sl (.sl (.int Go.IntKind.i64))), false), (.box (.dat (.pr (.sl (.arr 2 (.int Go.IntKind.i64))) (.sl (.int Go.IntKind.i64)))), false), (.dat (.int Go.IntKind.i64), true)]
noncomputable def implb19_0 (K : Nat) (rc : (List (List Int)) → ((List (List Int)) × (List Int)) → Int → Option (Sum (Int × Unit) Bool)) (x1 : (List (List Int))) (x2 : ((List (List Int)) × (List Int))) (x3 : Int) : Option (Sum (Int × Unit) Bool) :=
  (bif decide (x3 < (↑x1.length : Int)) then (if (0 : Int) ≤ x3 ∧ x3 < (↑x1.length : Int) then (bif decide ((↑(x1.getD x3.toNat []).length : Int) > (100 : Int)) then some (Sum.inr true) else (rc x1 x2 (IntKind.i64.wrap (x3 + (1 : Int))))) else none) else some (Sum.inl (x3, ())))
noncomputable def impll19_0 (K : Nat) : Nat → (List (List Int)) → ((List (List Int)) × (List Int)) → Int → Option (Sum (Int × Unit) Bool)
  | 0, _, _, _ => none
  | k + 1, x1, x2, x3 => implb19_0 K (impll19_0 K k) x1 x2 x3
noncomputable def n19_0 (K : Nat) : Lent := ⟨[1, 2, 5], i19_0, [6, 7, 8, 9, 12, 13, 14, 15, 16, 17, 4, 10, 11], [0], true, res19, fun x => impll19_0 K K x.1 x.2.1 x.2.2.1, [], none⟩
theorem q19_0 (K : Nat) (rc : (List (List Int)) → ((List (List Int)) × (List Int)) → Int → Option (Sum (Int × Unit) Bool)) (x1 : (List (List Int))) (x2 : ((List (List Int)) × (List Int))) (x3 : Int) : evLoop (L19_0 K) 3 19 Try.f19.results.toList (loopOf 0 (codeOf Try.f19)) 0 [1, 2, 5] [] i19_0 [0] true res19 (fun x => rc x.1 x.2.1 x.2.2.1) (x1, x2, x3, ()) = implb19_0 K rc x1 x2 x3 := by kernel_rfl
theorem lp19_0 : loopsIn (loopOf 0 (codeOf Try.f19)) 0 = [] := by kernel_rfl
theorem n19_0_ok (K : Nat) : LentOk Try.prog Try.f19 (loopOf 0 (codeOf Try.f19)) (n19_0 K) := lentOk_k (slots := [1, 2, 5]) (ali := []) (ins := i19_0) (writes := [6, 7, 8, 9, 12, 13, 14, 15, 16, 17, 4, 10, 11]) (exits := [0]) (rets := true) (rs := res19) (d := 3) (lib19_0 K) lp19_0 trivial (by kernel_rfl) (by kernel_rfl) (by kernel_rfl) (by kernel_rfl) (by kernel_rfl) (fun k x => impll19_0 K k x.1 x.2.1 x.2.2.1) (fun _ => rfl) (fun k x => q19_0 K (impll19_0 K k) x.1 x.2.1 x.2.2.1) K
noncomputable def L19_1 (K : Nat) : Lib := mkLib ti [] [] 19 [(0, [n19_0 K])]
theorem lib19_1 (K : Nat) : LibOk Try.prog (L19_1 K) := libOk_mk (ents := []) (bodies := []) (loops := [(0, [n19_0 K])]) order tiOk trivial trivial Try.func19 rfl lp19 ⟨one_lent (n19_0_ok K), trivial⟩
noncomputable def implf19 (K : Nat) (x1 : ((List (List Int)) × (List Int))) (x2 : (List (List Int))) : Option (Bool) :=
  (ob (impll19_0 K K x2 x1 ((0 : Int))) fun y1 => (match y1 with | .inl y2 => (bif decide ((↑x1.1.length : Int) > (50 : Int)) then some (true) else some (decide ((↑x1.2.length : Int) > (50 : Int)))) | .inr y2 => some (y2)))
theorem q19 (K : Nat) (x1 : ((List (List Int)) × (List Int))) (x2 : (List (List Int))) : evFnK (α := Bool) (L19_1 K) 3 19 Try.f19.results.toList (codeOf Try.f19) ins19 res19 (fun p => p.1) (x1, x2, ()) = implf19 K x1 x2 := by kernel_rfl
noncomputable def e19 (K : Nat) : Ent := ⟨ins19, res19, Bool, fun x => implf19 K x.1 x.2.1, fun _ => (fun y => (y, (()))), false⟩
theorem e19_ok (K : Nat) : EntOk Try.prog 19 (e19 K) := entOk_k (ins := ins19) (rs := res19) (α := Bool) (lib19_1 K) (d := 3) Try.func19 rfl (by kernel_rfl) (by kernel_rfl) (by kernel_rfl) (fun x => implf19 K x.1 x.2.1) (fun p => p.1) (fun y => (y, (()))) (fun _ => rfl) (fun x => q19 K x.1 x.2.1)

/-! slices.Equal[[]int,int] -/
abbrev ins82 : Fs := [(.dat (.sl (.int .i64)), false), (.dat (.sl (.int .i64)), false)]
abbrev res82 : Sh := .dat (.bool)
theorem lp82 : loopsIn (codeOf Try.f82) 0 = [(0, loopOf 0 (codeOf Try.f82))] := by kernel_rfl
noncomputable def L82_0 (K : Nat) : Lib := mkLib ti [] [] 82 []
theorem lib82_0 (K : Nat) : LibOk Try.prog (L82_0 K) := libOk_mk (ents := []) (bodies := []) (loops := []) order tiOk trivial trivial Try.func82 rfl lp82 ⟨no_lent, trivial⟩
abbrev i82_0 : Fs := [(.dat (.sl (.int Go.IntKind.i64)), false), (.dat (.sl (.int Go.IntKind.i64)), false), (.dat (.int Go.IntKind.i64), false), (.dat (.int Go.IntKind.i64), true)]
noncomputable def implb82_0 (K : Nat) (rc : (List Int) → (List Int) → Int → Int → Option (Sum (Int × Unit) Bool)) (x1 : (List Int)) (x2 : (List Int)) (x3 : Int) (x4 : Int) : Option (Sum (Int × Unit) Bool) :=
  (bif decide (x4 < x3) then (if (0 : Int) ≤ x4 ∧ x4 < (↑x1.length : Int) then (if (0 : Int) ≤ x4 ∧ x4 < (↑x2.length : Int) then (bif x1.getD x4.toNat ((0 : Int)) != x2.getD x4.toNat ((0 : Int)) then some (Sum.inr false) else (rc x1 x2 x3 (IntKind.i64.wrap (x4 + (1 : Int))))) else none) else none) else some (Sum.inl (x4, ())))
noncomputable def impll82_0 (K : Nat) : Nat → (List Int) → (List Int) → Int → Int → Option (Sum (Int × Unit) Bool)
  | 0, _, _, _, _ => none
  | k + 1, x1, x2, x3, x4 => implb82_0 K (impll82_0 K k) x1 x2 x3 x4
noncomputable def n82_0 (K : Nat) : Lent := ⟨[0, 1, 12, 13], i82_0, [14, 15, 5, 16, 17, 18, 19, 20, 21, 22, 23, 24, 4, 25], [0], true, res82, fun x => impll82_0 K K x.1 x.2.1 x.2.2.1 x.2.2.2.1, [], none⟩
theorem q82_0 (K : Nat) (rc : (List Int) → (List Int) → Int → Int → Option (Sum (Int × Unit) Bool)) (x1 : (List Int)) (x2 : (List Int)) (x3 : Int) (x4 : Int) : evLoop (L82_0 K) 3 82 Try.f82.results.toList (loopOf 0 (codeOf Try.f82)) 0 [0, 1, 12, 13] [] i82_0 [0] true res82 (fun x => rc x.1 x.2.1 x.2.2.1 x.2.2.2.1) (x1, x2, x3, x4, ()) = implb82_0 K rc x1 x2 x3 x4 := by kernel_rfl
theorem lp82_0 : loopsIn (loopOf 0 (codeOf Try.f82)) 0 = [] := by kernel_rfl
theorem n82_0_ok (K : Nat) : LentOk Try.prog Try.f82 (loopOf 0 (codeOf Try.f82)) (n82_0 K) := lentOk_k (slots := [0, 1, 12, 13]) (ali := []) (ins := i82_0) (writes := [14, 15, 5, 16, 17, 18, 19, 20, 21, 22, 23, 24, 4, 25]) (exits := [0]) (rets := true) (rs := res82) (d := 3) (lib82_0 K) lp82_0 trivial (by kernel_rfl) (by kernel_rfl) (by kernel_rfl) (by kernel_rfl) (by kernel_rfl) (fun k x => impll82_0 K k x.1 x.2.1 x.2.2.1 x.2.2.2.1) (fun _ => rfl) (fun k x => q82_0 K (impll82_0 K k) x.1 x.2.1 x.2.2.1 x.2.2.2.1) K
noncomputable def L82_1 (K : Nat) : Lib := mkLib ti [] [] 82 [(0, [n82_0 K])]
theorem lib82_1 (K : Nat) : LibOk Try.prog (L82_1 K) := libOk_mk (ents := []) (bodies := []) (loops := [(0, [n82_0 K])]) order tiOk trivial trivial Try.func82 rfl lp82 ⟨one_lent (n82_0_ok K), trivial⟩
noncomputable def implf82 (K : Nat) (x1 : (List Int)) (x2 : (List Int)) : Option (Bool) :=
  (bif (↑x1.length : Int) != (↑x2.length : Int) then some (false) else (ob (impll82_0 K K x1 x2 ((↑x1.length : Int)) ((0 : Int))) fun y1 => (match y1 with | .inl y2 => some (true) | .inr y2 => some (y2))))
theorem q82 (K : Nat) (x1 : (List Int)) (x2 : (List Int)) : evFnK (α := Bool) (L82_1 K) 3 82 Try.f82.results.toList (codeOf Try.f82) ins82 res82 (fun p => p.1) (x1, x2, ()) = implf82 K x1 x2 := by kernel_rfl
noncomputable def e82 (K : Nat) : Ent := ⟨ins82, res82, Bool, fun x => implf82 K x.1 x.2.1, fun _ => (fun y => (y, (()))), false⟩
theorem e82_ok (K : Nat) : EntOk Try.prog 82 (e82 K) := entOk_k (ins := ins82) (rs := res82) (α := Bool) (lib82_1 K) (d := 3) Try.func82 rfl (by kernel_rfl) (by kernel_rfl) (by kernel_rfl) (fun x => implf82 K x.1 x.2.1) (fun p => p.1) (fun y => (y, (()))) (fun _ => rfl) (fun x => q82 K x.1 x.2.1)

/-! diaphone/relay.kinds -/
abbrev ins59 : Fs := [(.dat (.pr (.sl (.arr 2 (.int .i64))) (.sl (.int .i64))), false)]
abbrev res59 : Sh := .own (.int .i64)
theorem lp59 : loopsIn (codeOf Try.f59) 0 = [(0, loopOf 0 (codeOf Try.f59)), (2, loopOf 2 (codeOf Try.f59)), (4, loopOf 4 (codeOf Try.f59)), (6, loopOf 6 (codeOf Try.f59))] := by kernel_rfl
noncomputable def L59_0 (K : Nat) : Lib := mkLib ti [(82, [e82 K])] [(85, Try.f85), (94, Try.f94), (95, Try.f95), (96, Try.f96)] 59 []
theorem lib59_0 (K : Nat) : LibOk Try.prog (L59_0 K) := libOk_mk (ents := [(82, [e82 K])]) (bodies := [(85, Try.f85), (94, Try.f94), (95, Try.f95), (96, Try.f96)]) (loops := []) order tiOk ⟨one_ent (e82_ok K), trivial⟩ ⟨bod85, bod94, bod95, bod96, trivial⟩ Try.func59 rfl lp59 ⟨no_lent, no_lent, no_lent, no_lent, trivial⟩
abbrev i59_0 : Fs := [(.box (.dat (.pr (.sl (.arr 2 (.int Go.IntKind.i64))) (.sl (.int Go.IntKind.i64)))), false), (.own (.int Go.IntKind.i64), true)]
abbrev i59_2 : Fs := [(.box (.dat (.pr (.sl (.arr 2 (.int Go.IntKind.i64))) (.sl (.int Go.IntKind.i64)))), false), (.own (.int Go.IntKind.i64), false), (.own (.int Go.IntKind.i64), true), (.dat (.int Go.IntKind.i64), false), (.dat (.int Go.IntKind.i64), true)]
abbrev i59_4 : Fs := [(.box (.dat (.pr (.sl (.arr 2 (.int Go.IntKind.i64))) (.sl (.int Go.IntKind.i64)))), false), (.own (.int Go.IntKind.i64), false), (.own (.int Go.IntKind.i64), true), (.dat (.int Go.IntKind.i64), false), (.dat (.int Go.IntKind.i64), false), (.dat (.int Go.IntKind.i64), false), (.dat (.int Go.IntKind.i64), false), (.dat (.int Go.IntKind.i64), true)]
noncomputable def implb59_4 (K : Nat) (rc : ((List (List Int)) × (List Int)) → (List Int) → (List Int) → Int → Int → Int → Int → Int → Option ((List Int) × Int × Unit)) (x1 : ((List (List Int)) × (List Int))) (x2 : (List Int)) (x3 : (List Int)) (x4 : Int) (x5 : Int) (x6 : Int) (x7 : Int) (x8 : Int) : Option ((List Int) × Int × Unit) :=
  (bif decide (x8 < x7) then (if (0 : Int) ≤ x4 ∧ x4 < (↑x1.2.length : Int) then (if (0 : Int) ≤ x8 ∧ x8 < (↑x1.2.length : Int) then (bif x1.2.getD x4.toNat ((0 : Int)) == x1.2.getD x8.toNat ((0 : Int)) then (if (0 : Int) ≤ x4 ∧ x4 < (↑x1.1.length : Int) then (if (0 : Int) ≤ (x1.1.getD x4.toNat (List.replicate 2 ((0 : Int)))).getD (0) ((0 : Int)) ∧ (x1.1.getD x4.toNat (List.replicate 2 ((0 : Int)))).getD (0) ((0 : Int)) < (↑x2.length : Int) then (if (0 : Int) ≤ x8 ∧ x8 < (↑x1.1.length : Int) then (if (0 : Int) ≤ (x1.1.getD x8.toNat (List.replicate 2 ((0 : Int)))).getD (0) ((0 : Int)) ∧ (x1.1.getD x8.toNat (List.replicate 2 ((0 : Int)))).getD (0) ((0 : Int)) < (↑x2.length : Int) then (bif x2.getD ((x1.1.getD x4.toNat (List.replicate 2 ((0 : Int)))).getD (0) ((0 : Int))).toNat ((0 : Int)) == x2.getD ((x1.1.getD x8.toNat (List.replicate 2 ((0 : Int)))).getD (0) ((0 : Int))).toNat ((0 : Int)) then (if (0 : Int) ≤ x4 ∧ x4 < (↑x1.1.length : Int) then (if (0 : Int) ≤ (x1.1.getD x4.toNat (List.replicate 2 ((0 : Int)))).getD (1) ((0 : Int)) ∧ (x1.1.getD x4.toNat (List.replicate 2 ((0 : Int)))).getD (1) ((0 : Int)) < (↑x2.length : Int) then (if (0 : Int) ≤ x8 ∧ x8 < (↑x1.1.length : Int) then (if (0 : Int) ≤ (x1.1.getD x8.toNat (List.replicate 2 ((0 : Int)))).getD (1) ((0 : Int)) ∧ (x1.1.getD x8.toNat (List.replicate 2 ((0 : Int)))).getD (1) ((0 : Int)) < (↑x2.length : Int) then (bif x2.getD ((x1.1.getD x4.toNat (List.replicate 2 ((0 : Int)))).getD (1) ((0 : Int))).toNat ((0 : Int)) == x2.getD ((x1.1.getD x8.toNat (List.replicate 2 ((0 : Int)))).getD (1) ((0 : Int))).toNat ((0 : Int)) then (if (0 : Int) ≤ x4 ∧ x4 < (↑x3.length : Int) then some ((x3.set x4.toNat x8, x8, ())) else none) else (rc x1 x2 x3 x4 x5 x6 x7 (IntKind.i64.wrap (x8 + (1 : Int))))) else none) else none) else none) else none) else (rc x1 x2 x3 x4 x5 x6 x7 (IntKind.i64.wrap (x8 + (1 : Int))))) else none) else none) else none) else none) else (rc x1 x2 x3 x4 x5 x6 x7 (IntKind.i64.wrap (x8 + (1 : Int))))) else none) else none) else some ((x3, x8, ())))
noncomputable def impll59_4 (K : Nat) : Nat → ((List (List Int)) × (List Int)) → (List Int) → (List Int) → Int → Int → Int → Int → Int → Option ((List Int) × Int × Unit)
  | 0, _, _, _, _, _, _, _, _ => none
  | k + 1, x1, x2, x3, x4, x5, x6, x7, x8 => implb59_4 K (impll59_4 K k) x1 x2 x3 x4 x5 x6 x7 x8
noncomputable def n59_4 (K : Nat) : Lent := ⟨[1, 3, 4, 5, 19, 20, 27, 28], i59_4, [29, 30, 6, 7, 31, 32, 33, 34, 35, 36, 37, 9, 38, 39, 40, 41, 42, 43, 44, 45, 46, 47, 48, 49, 50, 51, 52, 53, 54, 55, 56, 57, 58], [4], false, res59, fun x => impll59_4 K K x.1 x.2.1 x.2.2.1 x.2.2.2.1 x.2.2.2.2.1 x.2.2.2.2.2.1 x.2.2.2.2.2.2.1 x.2.2.2.2.2.2.2.1, [], none⟩
theorem q59_4 (K : Nat) (rc : ((List (List Int)) × (List Int)) → (List Int) → (List Int) → Int → Int → Int → Int → Int → Option ((List Int) × Int × Unit)) (x1 : ((List (List Int)) × (List Int))) (x2 : (List Int)) (x3 : (List Int)) (x4 : Int) (x5 : Int) (x6 : Int) (x7 : Int) (x8 : Int) : evLoop (L59_0 K) 3 59 Try.f59.results.toList (loopOf 4 (codeOf Try.f59)) 4 [1, 3, 4, 5, 19, 20, 27, 28] [] i59_4 [4] false res59 (fun x => rc x.1 x.2.1 x.2.2.1 x.2.2.2.1 x.2.2.2.2.1 x.2.2.2.2.2.1 x.2.2.2.2.2.2.1 x.2.2.2.2.2.2.2.1) (x1, x2, x3, x4, x5, x6, x7, x8, ()) = implb59_4 K rc x1 x2 x3 x4 x5 x6 x7 x8 := by kernel_rfl
theorem lp59_4 : loopsIn (loopOf 4 (codeOf Try.f59)) 4 = [(6, loopOf 6 (codeOf Try.f59))] := by kernel_rfl
theorem n59_4_ok (K : Nat) : LentOk Try.prog Try.f59 (loopOf 4 (codeOf Try.f59)) (n59_4 K) := lentOk_k (slots := [1, 3, 4, 5, 19, 20, 27, 28]) (ali := []) (ins := i59_4) (writes := [29, 30, 6, 7, 31, 32, 33, 34, 35, 36, 37, 9, 38, 39, 40, 41, 42, 43, 44, 45, 46, 47, 48, 49, 50, 51, 52, 53, 54, 55, 56, 57, 58]) (exits := [4]) (rets := false) (rs := res59) (d := 3) (lib59_0 K) lp59_4 ⟨no_lent, trivial⟩ (by kernel_rfl) (by kernel_rfl) (by kernel_rfl) (by kernel_rfl) (by kernel_rfl) (fun k x => impll59_4 K k x.1 x.2.1 x.2.2.1 x.2.2.2.1 x.2.2.2.2.1 x.2.2.2.2.2.1 x.2.2.2.2.2.2.1 x.2.2.2.2.2.2.2.1) (fun _ => rfl) (fun k x => q59_4 K (impll59_4 K k) x.1 x.2.1 x.2.2.1 x.2.2.2.1 x.2.2.2.2.1 x.2.2.2.2.2.1 x.2.2.2.2.2.2.1 x.2.2.2.2.2.2.2.1) K
noncomputable def L59_1 (K : Nat) : Lib := mkLib ti [(82, [e82 K])] [(85, Try.f85), (94, Try.f94), (95, Try.f95), (96, Try.f96)] 59 [(4, [n59_4 K])]
theorem lib59_1 (K : Nat) : LibOk Try.prog (L59_1 K) := libOk_mk (ents := [(82, [e82 K])]) (bodies := [(85, Try.f85), (94, Try.f94), (95, Try.f95), (96, Try.f96)]) (loops := [(4, [n59_4 K])]) order tiOk ⟨one_ent (e82_ok K), trivial⟩ ⟨bod85, bod94, bod95, bod96, trivial⟩ Try.func59 rfl lp59 ⟨no_lent, no_lent, one_lent (n59_4_ok K), no_lent, trivial⟩
noncomputable def implb59_2 (K : Nat) (rc : ((List (List Int)) × (List Int)) → (List Int) → (List Int) → Int → Int → Option ((List Int) × Int × Unit)) (x1 : ((List (List Int)) × (List Int))) (x2 : (List Int)) (x3 : (List Int)) (x4 : Int) (x5 : Int) : Option ((List Int) × Int × Unit) :=
  (bif decide (x5 < x4) then (if (0 : Int) ≤ x5 ∧ x5 < (↑x3.length : Int) then (ob (impll59_4 K K x1 x2 (x3.set x5.toNat x5) x5 x4 x5 x5 ((0 : Int))) fun y1 => (rc x1 x2 y1.1 x4 (IntKind.i64.wrap (x5 + (1 : Int))))) else none) else some ((x3, x5, ())))
noncomputable def impll59_2 (K : Nat) : Nat → ((List (List Int)) × (List Int)) → (List Int) → (List Int) → Int → Int → Option ((List Int) × Int × Unit)
  | 0, _, _, _, _, _ => none
  | k + 1, x1, x2, x3, x4, x5 => implb59_2 K (impll59_2 K k) x1 x2 x3 x4 x5
noncomputable def n59_2 (K : Nat) : Lent := ⟨[1, 3, 4, 19, 20], i59_2, [21, 22, 5, 23, 24, 25, 26, 27, 28, 29, 30, 6, 7, 31, 32, 33, 34, 35, 36, 37, 9, 38, 39, 40, 41, 42, 43, 44, 45, 46, 47, 48, 49, 50, 51, 52, 53, 54, 55, 56, 57, 58, 59], [2], false, res59, fun x => impll59_2 K K x.1 x.2.1 x.2.2.1 x.2.2.2.1 x.2.2.2.2.1, [], none⟩
theorem q59_2 (K : Nat) (rc : ((List (List Int)) × (List Int)) → (List Int) → (List Int) → Int → Int → Option ((List Int) × Int × Unit)) (x1 : ((List (List Int)) × (List Int))) (x2 : (List Int)) (x3 : (List Int)) (x4 : Int) (x5 : Int) : evLoop (L59_1 K) 3 59 Try.f59.results.toList (loopOf 2 (codeOf Try.f59)) 2 [1, 3, 4, 19, 20] [] i59_2 [2] false res59 (fun x => rc x.1 x.2.1 x.2.2.1 x.2.2.2.1 x.2.2.2.2.1) (x1, x2, x3, x4, x5, ()) = implb59_2 K rc x1 x2 x3 x4 x5 := by kernel_rfl
theorem lp59_2 : loopsIn (loopOf 2 (codeOf Try.f59)) 2 = [(4, loopOf 4 (codeOf Try.f59)), (6, loopOf 6 (codeOf Try.f59))] := by kernel_rfl
theorem n59_2_ok (K : Nat) : LentOk Try.prog Try.f59 (loopOf 2 (codeOf Try.f59)) (n59_2 K) := lentOk_k (slots := [1, 3, 4, 19, 20]) (ali := []) (ins := i59_2) (writes := [21, 22, 5, 23, 24, 25, 26, 27, 28, 29, 30, 6, 7, 31, 32, 33, 34, 35, 36, 37, 9, 38, 39, 40, 41, 42, 43, 44, 45, 46, 47, 48, 49, 50, 51, 52, 53, 54, 55, 56, 57, 58, 59]) (exits := [2]) (rets := false) (rs := res59) (d := 3) (lib59_1 K) lp59_2 ⟨one_lent (n59_4_ok K), no_lent, trivial⟩ (by kernel_rfl) (by kernel_rfl) (by kernel_rfl) (by kernel_rfl) (by kernel_rfl) (fun k x => impll59_2 K k x.1 x.2.1 x.2.2.1 x.2.2.2.1 x.2.2.2.2.1) (fun _ => rfl) (fun k x => q59_2 K (impll59_2 K k) x.1 x.2.1 x.2.2.1 x.2.2.2.1 x.2.2.2.2.1) K
noncomputable def L59_2 (K : Nat) : Lib := mkLib ti [(82, [e82 K])] [(85, Try.f85), (94, Try.f94), (95, Try.f95), (96, Try.f96)] 59 [(4, [n59_4 K]), (2, [n59_2 K])]
theorem lib59_2 (K : Nat) : LibOk Try.prog (L59_2 K) := libOk_mk (ents := [(82, [e82 K])]) (bodies := [(85, Try.f85), (94, Try.f94), (95, Try.f95), (96, Try.f96)]) (loops := [(4, [n59_4 K]), (2, [n59_2 K])]) order tiOk ⟨one_ent (e82_ok K), trivial⟩ ⟨bod85, bod94, bod95, bod96, trivial⟩ Try.func59 rfl lp59 ⟨no_lent, one_lent (n59_2_ok K), one_lent (n59_4_ok K), no_lent, trivial⟩
noncomputable def implb59_0 (K : Nat) (rc : ((List (List Int)) × (List Int)) → (List Int) → Option (List Int)) (x1 : ((List (List Int)) × (List Int))) (x2 : (List Int)) : Option (List Int) :=
  (if (0 : Int) ≤ (↑x1.1.length : Int) ∧ (↑x1.1.length : Int) * (8 : Int) ≤ (140737488355328 : Int) then (ob (impll59_2 K K x1 x2 (List.replicate (↑x1.1.length : Int).toNat ((0 : Int))) (Int.ofNat (List.replicate (↑x1.1.length : Int).toNat ((0 : Int))).length) ((0 : Int))) fun y1 => (ob (implf82 K x2 y1.1) fun y2 => (bif y2 then some (x2) else (rc x1 y1.1)))) else none)
noncomputable def impll59_0 (K : Nat) : Nat → ((List (List Int)) × (List Int)) → (List Int) → Option (List Int)
  | 0, _, _ => none
  | k + 1, x1, x2 => implb59_0 K (impll59_0 K k) x1 x2
noncomputable def n59_0 (K : Nat) : Lent := ⟨[1, 3], i59_0, [14, 15, 16, 17, 4, 18, 19, 20, 21, 22, 5, 23, 24, 25, 26, 27, 28, 29, 30, 6, 7, 31, 32, 33, 34, 35, 36, 37, 9, 38, 39, 40, 41, 42, 43, 44, 45, 46, 47, 48, 49, 50, 51, 52, 53, 54, 55, 56, 57, 58, 59, 60, 61, 62, 63, 2, 64], [], true, res59, fun x => impll59_0 K K x.1 x.2.1, [], none⟩
theorem q59_0 (K : Nat) (rc : ((List (List Int)) × (List Int)) → (List Int) → Option (List Int)) (x1 : ((List (List Int)) × (List Int))) (x2 : (List Int)) : evLoop (L59_2 K) 3 59 Try.f59.results.toList (loopOf 0 (codeOf Try.f59)) 0 [1, 3] [] i59_0 [] true res59 (fun x => rc x.1 x.2.1) (x1, x2, ()) = implb59_0 K rc x1 x2 := by kernel_rfl
theorem lp59_0 : loopsIn (loopOf 0 (codeOf Try.f59)) 0 = [(2, loopOf 2 (codeOf Try.f59)), (4, loopOf 4 (codeOf Try.f59)), (6, loopOf 6 (codeOf Try.f59))] := by kernel_rfl
theorem n59_0_ok (K : Nat) : LentOk Try.prog Try.f59 (loopOf 0 (codeOf Try.f59)) (n59_0 K) := lentOk_k (slots := [1, 3]) (ali := []) (ins := i59_0) (writes := [14, 15, 16, 17, 4, 18, 19, 20, 21, 22, 5, 23, 24, 25, 26, 27, 28, 29, 30, 6, 7, 31, 32, 33, 34, 35, 36, 37, 9, 38, 39, 40, 41, 42, 43, 44, 45, 46, 47, 48, 49, 50, 51, 52, 53, 54, 55, 56, 57, 58, 59, 60, 61, 62, 63, 2, 64]) (exits := []) (rets := true) (rs := res59) (d := 3) (lib59_2 K) lp59_0 ⟨one_lent (n59_2_ok K), one_lent (n59_4_ok K), no_lent, trivial⟩ (by kernel_rfl) (by kernel_rfl) (by kernel_rfl) (by kernel_rfl) (by kernel_rfl) (fun k x => impll59_0 K k x.1 x.2.1) (fun _ => rfl) (fun k x => q59_0 K (impll59_0 K k) x.1 x.2.1) K
noncomputable def L59_3 (K : Nat) : Lib := mkLib ti [(82, [e82 K])] [(85, Try.f85), (94, Try.f94), (95, Try.f95), (96, Try.f96)] 59 [(4, [n59_4 K]), (2, [n59_2 K]), (0, [n59_0 K])]
theorem lib59_3 (K : Nat) : LibOk Try.prog (L59_3 K) := libOk_mk (ents := [(82, [e82 K])]) (bodies := [(85, Try.f85), (94, Try.f94), (95, Try.f95), (96, Try.f96)]) (loops := [(4, [n59_4 K]), (2, [n59_2 K]), (0, [n59_0 K])]) order tiOk ⟨one_ent (e82_ok K), trivial⟩ ⟨bod85, bod94, bod95, bod96, trivial⟩ Try.func59 rfl lp59 ⟨one_lent (n59_0_ok K), one_lent (n59_2_ok K), one_lent (n59_4_ok K), no_lent, trivial⟩
noncomputable def implf59 (K : Nat) (x1 : ((List (List Int)) × (List Int))) : Option ((List Int)) :=
  (if (0 : Int) ≤ (↑x1.1.length : Int) ∧ (↑x1.1.length : Int) * (8 : Int) ≤ (140737488355328 : Int) then (ob (impll59_0 K K x1 (List.replicate (↑x1.1.length : Int).toNat ((0 : Int)))) fun y1 => some (y1)) else none)
theorem q59 (K : Nat) (x1 : ((List (List Int)) × (List Int))) : evFnK (α := (List Int)) (L59_3 K) 3 59 Try.f59.results.toList (codeOf Try.f59) ins59 res59 (fun p => p.1) (x1, ()) = implf59 K x1 := by kernel_rfl
noncomputable def e59 (K : Nat) : Ent := ⟨ins59, res59, (List Int), fun x => implf59 K x.1, fun _ => (fun y => (y, (()))), false⟩
theorem e59_ok (K : Nat) : EntOk Try.prog 59 (e59 K) := entOk_k (ins := ins59) (rs := res59) (α := (List Int)) (lib59_3 K) (d := 3) Try.func59 rfl (by kernel_rfl) (by kernel_rfl) (by kernel_rfl) (fun x => implf59 K x.1) (fun p => p.1) (fun y => (y, (()))) (fun _ => rfl) (fun x => q59 K x.1)

/-! diaphone/relay.Kinds -/
abbrev ins21 : Fs := [(.dat (.pr (.sl (.arr 2 (.int .i64))) (.sl (.int .i64))), false)]
abbrev res21 : Sh := .cons (.own (.int .i64)) (.cons (.dat (.int .i64)) (.un))
theorem lp21 : loopsIn (codeOf Try.f21) 0 = [] := by kernel_rfl
noncomputable def L21_0 (K : Nat) : Lib := mkLib ti [(30, [e30 K]), (59, [e59 K])] [] 21 []
theorem lib21_0 (K : Nat) : LibOk Try.prog (L21_0 K) := libOk_mk (ents := [(30, [e30 K]), (59, [e59 K])]) (bodies := []) (loops := []) order tiOk ⟨one_ent (e30_ok K), one_ent (e59_ok K), trivial⟩ trivial Try.func21 rfl lp21 trivial
noncomputable def implf21 (K : Nat) (x1 : ((List (List Int)) × (List Int))) : Option ((List Int) × Int) :=
  (ob (implf30 K x1) fun y1 => (bif y1 != (0 : Int) then some (([], y1)) else (ob (implf59 K x1) fun y2 => some ((y2, (0 : Int))))))
theorem q21 (K : Nat) (x1 : ((List (List Int)) × (List Int))) : evFnK (α := (List Int) × Int) (L21_0 K) 3 21 Try.f21.results.toList (codeOf Try.f21) ins21 res21 (fun p => (p.1.1, p.1.2.1)) (x1, ()) = implf21 K x1 := by kernel_rfl
noncomputable def e21 (K : Nat) : Ent := ⟨ins21, res21, (List Int) × Int, fun x => implf21 K x.1, fun _ => (fun y => ((y.1, y.2, ()), (()))), false⟩
theorem e21_ok (K : Nat) : EntOk Try.prog 21 (e21 K) := entOk_k (ins := ins21) (rs := res21) (α := (List Int) × Int) (lib21_0 K) (d := 3) Try.func21 rfl (by kernel_rfl) (by kernel_rfl) (by kernel_rfl) (fun x => implf21 K x.1) (fun p => (p.1.1, p.1.2.1)) (fun y => ((y.1, y.2, ()), (()))) (fun _ => rfl) (fun x => q21 K x.1)

/-! diaphone/diaphoneref08.SameInts -/
abbrev ins23 : Fs := [(.dat (.sl (.int .i64)), false), (.dat (.sl (.int .i64)), false)]
abbrev res23 : Sh := .dat (.bool)
theorem lp23 : loopsIn (codeOf Try.f23) 0 = [(0, loopOf 0 (codeOf Try.f23))] := by kernel_rfl
noncomputable def L23_0 (K : Nat) : Lib := mkLib ti [] [] 23 []
theorem lib23_0 (K : Nat) : LibOk Try.prog (L23_0 K) := libOk_mk (ents := []) (bodies := []) (loops := []) order tiOk trivial trivial Try.func23 rfl lp23 ⟨no_lent, trivial⟩
abbrev i23_0 : Fs := [(.dat (.sl (.int Go.IntKind.i64)), false), (.dat (.sl (.int Go.IntKind.i64)), false), (.dat (.int Go.IntKind.i64), true)]
noncomputable def implb23_0 (K : Nat) (rc : (List Int) → (List Int) → Int → Option (Sum (Int × Unit) Bool)) (x1 : (List Int)) (x2 : (List Int)) (x3 : Int) : Option (Sum (Int × Unit) Bool) :=
  (bif decide (x3 < (↑x1.length : Int)) then (if (0 : Int) ≤ x3 ∧ x3 < (↑x1.length : Int) then (if (0 : Int) ≤ x3 ∧ x3 < (↑x2.length : Int) then (bif x1.getD x3.toNat ((0 : Int)) != x2.getD x3.toNat ((0 : Int)) then some (Sum.inr false) else (rc x1 x2 (IntKind.i64.wrap (x3 + (1 : Int))))) else none) else none) else some (Sum.inl (x3, ())))
noncomputable def impll23_0 (K : Nat) : Nat → (List Int) → (List Int) → Int → Option (Sum (Int × Unit) Bool)
  | 0, _, _, _ => none
  | k + 1, x1, x2, x3 => implb23_0 K (impll23_0 K k) x1 x2 x3
noncomputable def n23_0 (K : Nat) : Lent := ⟨[0, 1, 5], i23_0, [11, 12, 13, 14, 17, 18, 19, 20, 21, 22, 23, 24, 25, 4, 15, 16], [0], true, res23, fun x => impll23_0 K K x.1 x.2.1 x.2.2.1, [], none⟩
theorem q23_0 (K : Nat) (rc : (List Int) → (List Int) → Int → Option (Sum (Int × Unit) Bool)) (x1 : (List Int)) (x2 : (List Int)) (x3 : Int) : evLoop (L23_0 K) 3 23 Try.f23.results.toList (loopOf 0 (codeOf Try.f23)) 0 [0, 1, 5] [] i23_0 [0] true res23 (fun x => rc x.1 x.2.1 x.2.2.1) (x1, x2, x3, ()) = implb23_0 K rc x1 x2 x3 := by kernel_rfl
theorem lp23_0 : loopsIn (loopOf 0 (codeOf Try.f23)) 0 = [] := by kernel_rfl
theorem n23_0_ok (K : Nat) : LentOk Try.prog Try.f23 (loopOf 0 (codeOf Try.f23)) (n23_0 K) := lentOk_k (slots := [0, 1, 5]) (ali := []) (ins := i23_0) (writes := [11, 12, 13, 14, 17, 18, 19, 20, 21, 22, 23, 24, 25, 4, 15, 16]) (exits := [0]) (rets := true) (rs := res23) (d := 3) (lib23_0 K) lp23_0 trivial (by kernel_rfl) (by kernel_rfl) (by kernel_rfl) (by kernel_rfl) (by kernel_rfl) (fun k x => impll23_0 K k x.1 x.2.1 x.2.2.1) (fun _ => rfl) (fun k x => q23_0 K (impll23_0 K k) x.1 x.2.1 x.2.2.1) K
noncomputable def L23_1 (K : Nat) : Lib := mkLib ti [] [] 23 [(0, [n23_0 K])]
theorem lib23_1 (K : Nat) : LibOk Try.prog (L23_1 K) := libOk_mk (ents := []) (bodies := []) (loops := [(0, [n23_0 K])]) order tiOk trivial trivial Try.func23 rfl lp23 ⟨one_lent (n23_0_ok K), trivial⟩
noncomputable def implf23 (K : Nat) (x1 : (List Int)) (x2 : (List Int)) : Option (Bool) :=
  (bif (↑x1.length : Int) != (↑x2.length : Int) then some (false) else (ob (impll23_0 K K x1 x2 ((0 : Int))) fun y1 => (match y1 with | .inl y2 => some (true) | .inr y2 => some (y2))))
theorem q23 (K : Nat) (x1 : (List Int)) (x2 : (List Int)) : evFnK (α := Bool) (L23_1 K) 3 23 Try.f23.results.toList (codeOf Try.f23) ins23 res23 (fun p => p.1) (x1, x2, ()) = implf23 K x1 x2 := by kernel_rfl
noncomputable def e23 (K : Nat) : Ent := ⟨ins23, res23, Bool, fun x => implf23 K x.1 x.2.1, fun _ => (fun y => (y, (()))), false⟩
theorem e23_ok (K : Nat) : EntOk Try.prog 23 (e23 K) := entOk_k (ins := ins23) (rs := res23) (α := Bool) (lib23_1 K) (d := 3) Try.func23 rfl (by kernel_rfl) (by kernel_rfl) (by kernel_rfl) (fun x => implf23 K x.1 x.2.1) (fun p => p.1) (fun y => (y, (()))) (fun _ => rfl) (fun x => q23 K x.1 x.2.1)

/-! diaphone/relay.Count -/
abbrev ins24 : Fs := [(.dat (.pr (.sl (.arr 2 (.int .i64))) (.sl (.int .i64))), false), (.dat (.int .i64), false), (.dat (.int .i64), false)]
abbrev res24 : Sh := .cons (.dat (.int .i64)) (.cons (.dat (.int .i64)) (.un))
theorem lp24 : loopsIn (codeOf Try.f24) 0 = [(0, loopOf 0 (codeOf Try.f24)), (2, loopOf 2 (codeOf Try.f24)), (4, loopOf 4 (codeOf Try.f24))] := by kernel_rfl
noncomputable def L24_0 (K : Nat) : Lib := mkLib ti [(30, [e30 K]), (61, [e61 K])] [] 24 []
theorem lib24_0 (K : Nat) : LibOk Try.prog (L24_0 K) := libOk_mk (ents := [(30, [e30 K]), (61, [e61 K])]) (bodies := []) (loops := []) order tiOk ⟨one_ent (e30_ok K), one_ent (e61_ok K), trivial⟩ trivial Try.func24 rfl lp24 ⟨no_lent, no_lent, no_lent, trivial⟩
abbrev i24_0 : Fs := [(.dat (.int Go.IntKind.i64), false), (.box (.dat (.pr (.sl (.arr 2 (.int Go.IntKind.i64))) (.sl (.int Go.IntKind.i64)))), false), (.own (.int Go.IntKind.i64), true), (.dat (.int Go.IntKind.i64), false), (.dat (.int Go.IntKind.i64), true)]
abbrev i24_2 : Fs := [(.dat (.int Go.IntKind.i64), false), (.box (.dat (.pr (.sl (.arr 2 (.int Go.IntKind.i64))) (.sl (.int Go.IntKind.i64)))), false), (.own (.int Go.IntKind.i64), true), (.dat (.int Go.IntKind.i64), false), (.dat (.int Go.IntKind.i64), false), (.own (.int Go.IntKind.i64), false), (.dat (.int Go.IntKind.i64), false), (.dat (.int Go.IntKind.i64), true)]
noncomputable def implb24_2 (K : Nat) (rc : Int → ((List (List Int)) × (List Int)) → (List Int) → Int → Int → (List Int) → Int → Int → Option ((List Int) × Int × Unit)) (x1 : Int) (x2 : ((List (List Int)) × (List Int))) (x3 : (List Int)) (x4 : Int) (x5 : Int) (x6 : (List Int)) (x7 : Int) (x8 : Int) : Option ((List Int) × Int × Unit) :=
  (bif decide (x8 < x7) then (if (0 : Int) ≤ x8 ∧ x8 < (↑x6.length : Int) then (if (0 : Int) ≤ x8 ∧ x8 < (↑x2.1.length : Int) then (if (0 : Int) ≤ (x2.1.getD x8.toNat (List.replicate 2 ((0 : Int)))).getD (0) ((0 : Int)) ∧ (x2.1.getD x8.toNat (List.replicate 2 ((0 : Int)))).getD (0) ((0 : Int)) < (↑x3.length : Int) then (if (0 : Int) ≤ (x2.1.getD x8.toNat (List.replicate 2 ((0 : Int)))).getD (0) ((0 : Int)) ∧ (x2.1.getD x8.toNat (List.replicate 2 ((0 : Int)))).getD (0) ((0 : Int)) < (↑x3.length : Int) then (if (0 : Int) ≤ x8 ∧ x8 < (↑x2.1.length : Int) then (if (0 : Int) ≤ (x2.1.getD x8.toNat (List.replicate 2 ((0 : Int)))).getD (1) ((0 : Int)) ∧ (x2.1.getD x8.toNat (List.replicate 2 ((0 : Int)))).getD (1) ((0 : Int)) < (↑(x3.set ((x2.1.getD x8.toNat (List.replicate 2 ((0 : Int)))).getD (0) ((0 : Int))).toNat (IntKind.i64.wrap (x3.getD ((x2.1.getD x8.toNat (List.replicate 2 ((0 : Int)))).getD (0) ((0 : Int))).toNat ((0 : Int)) + x6.getD x8.toNat ((0 : Int))))).length : Int) then (if (0 : Int) ≤ (x2.1.getD x8.toNat (List.replicate 2 ((0 : Int)))).getD (1) ((0 : Int)) ∧ (x2.1.getD x8.toNat (List.replicate 2 ((0 : Int)))).getD (1) ((0 : Int)) < (↑(x3.set ((x2.1.getD x8.toNat (List.replicate 2 ((0 : Int)))).getD (0) ((0 : Int))).toNat (IntKind.i64.wrap (x3.getD ((x2.1.getD x8.toNat (List.replicate 2 ((0 : Int)))).getD (0) ((0 : Int))).toNat ((0 : Int)) + x6.getD x8.toNat ((0 : Int))))).length : Int) then (rc x1 x2 ((x3.set ((x2.1.getD x8.toNat (List.replicate 2 ((0 : Int)))).getD (0) ((0 : Int))).toNat (IntKind.i64.wrap (x3.getD ((x2.1.getD x8.toNat (List.replicate 2 ((0 : Int)))).getD (0) ((0 : Int))).toNat ((0 : Int)) + x6.getD x8.toNat ((0 : Int))))).set ((x2.1.getD x8.toNat (List.replicate 2 ((0 : Int)))).getD (1) ((0 : Int))).toNat (IntKind.i64.wrap ((x3.set ((x2.1.getD x8.toNat (List.replicate 2 ((0 : Int)))).getD (0) ((0 : Int))).toNat (IntKind.i64.wrap (x3.getD ((x2.1.getD x8.toNat (List.replicate 2 ((0 : Int)))).getD (0) ((0 : Int))).toNat ((0 : Int)) + x6.getD x8.toNat ((0 : Int))))).getD ((x2.1.getD x8.toNat (List.replicate 2 ((0 : Int)))).getD (1) ((0 : Int))).toNat ((0 : Int)) + x6.getD x8.toNat ((0 : Int))))) x4 x5 x6 x7 (IntKind.i64.wrap (x8 + (1 : Int)))) else none) else none) else none) else none) else none) else none) else none) else some ((x3, x8, ())))
noncomputable def impll24_2 (K : Nat) : Nat → Int → ((List (List Int)) × (List Int)) → (List Int) → Int → Int → (List Int) → Int → Int → Option ((List Int) × Int × Unit)
  | 0, _, _, _, _, _, _, _, _ => none
  | k + 1, x1, x2, x3, x4, x5, x6, x7, x8 => implb24_2 K (impll24_2 K k) x1 x2 x3 x4 x5 x6 x7 x8
noncomputable def n24_2 (K : Nat) : Lent := ⟨[2, 3, 10, 35, 36, 42, 43, 44], i24_2, [45, 46, 47, 48, 11, 12, 49, 50, 51, 52, 53, 54, 55, 56, 57, 58, 59, 60, 61, 62, 63, 64, 65, 66, 67, 68, 69, 70, 71, 72, 73], [2], false, res24, fun x => impll24_2 K K x.1 x.2.1 x.2.2.1 x.2.2.2.1 x.2.2.2.2.1 x.2.2.2.2.2.1 x.2.2.2.2.2.2.1 x.2.2.2.2.2.2.2.1, [], none⟩
theorem q24_2 (K : Nat) (rc : Int → ((List (List Int)) × (List Int)) → (List Int) → Int → Int → (List Int) → Int → Int → Option ((List Int) × Int × Unit)) (x1 : Int) (x2 : ((List (List Int)) × (List Int))) (x3 : (List Int)) (x4 : Int) (x5 : Int) (x6 : (List Int)) (x7 : Int) (x8 : Int) : evLoop (L24_0 K) 3 24 Try.f24.results.toList (loopOf 2 (codeOf Try.f24)) 2 [2, 3, 10, 35, 36, 42, 43, 44] [] i24_2 [2] false res24 (fun x => rc x.1 x.2.1 x.2.2.1 x.2.2.2.1 x.2.2.2.2.1 x.2.2.2.2.2.1 x.2.2.2.2.2.2.1 x.2.2.2.2.2.2.2.1) (x1, x2, x3, x4, x5, x6, x7, x8, ()) = implb24_2 K rc x1 x2 x3 x4 x5 x6 x7 x8 := by kernel_rfl
theorem lp24_2 : loopsIn (loopOf 2 (codeOf Try.f24)) 2 = [] := by kernel_rfl
theorem n24_2_ok (K : Nat) : LentOk Try.prog Try.f24 (loopOf 2 (codeOf Try.f24)) (n24_2 K) := lentOk_k (slots := [2, 3, 10, 35, 36, 42, 43, 44]) (ali := []) (ins := i24_2) (writes := [45, 46, 47, 48, 11, 12, 49, 50, 51, 52, 53, 54, 55, 56, 57, 58, 59, 60, 61, 62, 63, 64, 65, 66, 67, 68, 69, 70, 71, 72, 73]) (exits := [2]) (rets := false) (rs := res24) (d := 3) (lib24_0 K) lp24_2 trivial (by kernel_rfl) (by kernel_rfl) (by kernel_rfl) (by kernel_rfl) (by kernel_rfl) (fun k x => impll24_2 K k x.1 x.2.1 x.2.2.1 x.2.2.2.1 x.2.2.2.2.1 x.2.2.2.2.2.1 x.2.2.2.2.2.2.1 x.2.2.2.2.2.2.2.1) (fun _ => rfl) (fun k x => q24_2 K (impll24_2 K k) x.1 x.2.1 x.2.2.1 x.2.2.2.1 x.2.2.2.2.1 x.2.2.2.2.2.1 x.2.2.2.2.2.2.1 x.2.2.2.2.2.2.2.1) K
noncomputable def L24_1 (K : Nat) : Lib := mkLib ti [(30, [e30 K]), (61, [e61 K])] [] 24 [(2, [n24_2 K])]
theorem lib24_1 (K : Nat) : LibOk Try.prog (L24_1 K) := libOk_mk (ents := [(30, [e30 K]), (61, [e61 K])]) (bodies := []) (loops := [(2, [n24_2 K])]) order tiOk ⟨one_ent (e30_ok K), one_ent (e61_ok K), trivial⟩ trivial Try.func24 rfl lp24 ⟨no_lent, one_lent (n24_2_ok K), no_lent, trivial⟩
noncomputable def implb24_0 (K : Nat) (rc : Int → ((List (List Int)) × (List Int)) → (List Int) → Int → Int → Option ((List Int) × Int × Unit)) (x1 : Int) (x2 : ((List (List Int)) × (List Int))) (x3 : (List Int)) (x4 : Int) (x5 : Int) : Option ((List Int) × Int × Unit) :=
  (bif decide (x5 < x4) then (if (0 : Int) ≤ (↑x2.1.length : Int) ∧ (↑x2.1.length : Int) * (8 : Int) ≤ (140737488355328 : Int) then (ob (impll24_2 K K x1 x2 (List.replicate (↑x2.1.length : Int).toNat ((0 : Int))) x4 x5 x3 ((↑x3.length : Int)) ((0 : Int))) fun y1 => (rc x1 x2 y1.1 x4 (IntKind.i64.wrap (x5 + (1 : Int))))) else none) else some ((x3, x5, ())))
noncomputable def impll24_0 (K : Nat) : Nat → Int → ((List (List Int)) × (List Int)) → (List Int) → Int → Int → Option ((List Int) × Int × Unit)
  | 0, _, _, _, _, _ => none
  | k + 1, x1, x2, x3, x4, x5 => implb24_0 K (impll24_0 K k) x1 x2 x3 x4 x5
noncomputable def n24_0 (K : Nat) : Lent := ⟨[2, 3, 9, 35, 36], i24_0, [37, 38, 39, 40, 41, 10, 42, 43, 44, 45, 46, 47, 48, 11, 12, 49, 50, 51, 52, 53, 54, 55, 56, 57, 58, 59, 60, 61, 62, 63, 64, 65, 66, 67, 68, 69, 70, 71, 72, 73, 74, 75], [0], false, res24, fun x => impll24_0 K K x.1 x.2.1 x.2.2.1 x.2.2.2.1 x.2.2.2.2.1, [], none⟩
theorem q24_0 (K : Nat) (rc : Int → ((List (List Int)) × (List Int)) → (List Int) → Int → Int → Option ((List Int) × Int × Unit)) (x1 : Int) (x2 : ((List (List Int)) × (List Int))) (x3 : (List Int)) (x4 : Int) (x5 : Int) : evLoop (L24_1 K) 3 24 Try.f24.results.toList (loopOf 0 (codeOf Try.f24)) 0 [2, 3, 9, 35, 36] [] i24_0 [0] false res24 (fun x => rc x.1 x.2.1 x.2.2.1 x.2.2.2.1 x.2.2.2.2.1) (x1, x2, x3, x4, x5, ()) = implb24_0 K rc x1 x2 x3 x4 x5 := by kernel_rfl
theorem lp24_0 : loopsIn (loopOf 0 (codeOf Try.f24)) 0 = [(2, loopOf 2 (codeOf Try.f24))] := by kernel_rfl
theorem n24_0_ok (K : Nat) : LentOk Try.prog Try.f24 (loopOf 0 (codeOf Try.f24)) (n24_0 K) := lentOk_k (slots := [2, 3, 9, 35, 36]) (ali := []) (ins := i24_0) (writes := [37, 38, 39, 40, 41, 10, 42, 43, 44, 45, 46, 47, 48, 11, 12, 49, 50, 51, 52, 53, 54, 55, 56, 57, 58, 59, 60, 61, 62, 63, 64, 65, 66, 67, 68, 69, 70, 71, 72, 73, 74, 75]) (exits := [0]) (rets := false) (rs := res24) (d := 3) (lib24_1 K) lp24_0 ⟨one_lent (n24_2_ok K), trivial⟩ (by kernel_rfl) (by kernel_rfl) (by kernel_rfl) (by kernel_rfl) (by kernel_rfl) (fun k x => impll24_0 K k x.1 x.2.1 x.2.2.1 x.2.2.2.1 x.2.2.2.2.1) (fun _ => rfl) (fun k x => q24_0 K (impll24_0 K k) x.1 x.2.1 x.2.2.1 x.2.2.2.1 x.2.2.2.2.1) K
noncomputable def L24_2 (K : Nat) : Lib := mkLib ti [(30, [e30 K]), (61, [e61 K])] [] 24 [(2, [n24_2 K]), (0, [n24_0 K])]
theorem lib24_2 (K : Nat) : LibOk Try.prog (L24_2 K) := libOk_mk (ents := [(30, [e30 K]), (61, [e61 K])]) (bodies := []) (loops := [(2, [n24_2 K]), (0, [n24_0 K])]) order tiOk ⟨one_ent (e30_ok K), one_ent (e61_ok K), trivial⟩ trivial Try.func24 rfl lp24 ⟨one_lent (n24_0_ok K), one_lent (n24_2_ok K), no_lent, trivial⟩
abbrev i24_4 : Fs := [(.dat (.int Go.IntKind.i64), false), (.box (.dat (.pr (.sl (.arr 2 (.int Go.IntKind.i64))) (.sl (.int Go.IntKind.i64)))), false), (.dat (.int Go.IntKind.i64), true), (.own (.int Go.IntKind.i64), false), (.dat (.int Go.IntKind.i64), false), (.dat (.int Go.IntKind.i64), true)]
noncomputable def implb24_4 (K : Nat) (rc : Int → ((List (List Int)) × (List Int)) → Int → (List Int) → Int → Int → Option (Int × Int × Unit)) (x1 : Int) (x2 : ((List (List Int)) × (List Int))) (x3 : Int) (x4 : (List Int)) (x5 : Int) (x6 : Int) : Option (Int × Int × Unit) :=
  (bif decide (x6 < x5) then (if (0 : Int) ≤ x6 ∧ x6 < (↑x4.length : Int) then (if (0 : Int) ≤ x6 ∧ x6 < (↑x2.2.length : Int) then (bif x2.2.getD x6.toNat ((0 : Int)) == x1 then (rc x1 x2 (IntKind.i64.wrap (x3 + x4.getD x6.toNat ((0 : Int)))) x4 x5 (IntKind.i64.wrap (x6 + (1 : Int)))) else (rc x1 x2 x3 x4 x5 (IntKind.i64.wrap (x6 + (1 : Int))))) else none) else none) else some ((x3, x6, ())))
noncomputable def impll24_4 (K : Nat) : Nat → Int → ((List (List Int)) × (List Int)) → Int → (List Int) → Int → Int → Option (Int × Int × Unit)
  | 0, _, _, _, _, _, _ => none
  | k + 1, x1, x2, x3, x4, x5, x6 => implb24_4 K (impll24_4 K k) x1 x2 x3 x4 x5 x6
noncomputable def n24_4 (K : Nat) : Lent := ⟨[2, 3, 13, 76, 77, 78], i24_4, [79, 80, 81, 82, 14, 15, 83, 84, 85, 86, 87, 88, 89, 90, 91, 92, 93], [4], false, res24, fun x => impll24_4 K K x.1 x.2.1 x.2.2.1 x.2.2.2.1 x.2.2.2.2.1 x.2.2.2.2.2.1, [], none⟩
theorem q24_4 (K : Nat) (rc : Int → ((List (List Int)) × (List Int)) → Int → (List Int) → Int → Int → Option (Int × Int × Unit)) (x1 : Int) (x2 : ((List (List Int)) × (List Int))) (x3 : Int) (x4 : (List Int)) (x5 : Int) (x6 : Int) : evLoop (L24_2 K) 3 24 Try.f24.results.toList (loopOf 4 (codeOf Try.f24)) 4 [2, 3, 13, 76, 77, 78] [] i24_4 [4] false res24 (fun x => rc x.1 x.2.1 x.2.2.1 x.2.2.2.1 x.2.2.2.2.1 x.2.2.2.2.2.1) (x1, x2, x3, x4, x5, x6, ()) = implb24_4 K rc x1 x2 x3 x4 x5 x6 := by kernel_rfl
theorem lp24_4 : loopsIn (loopOf 4 (codeOf Try.f24)) 4 = [] := by kernel_rfl
theorem n24_4_ok (K : Nat) : LentOk Try.prog Try.f24 (loopOf 4 (codeOf Try.f24)) (n24_4 K) := lentOk_k (slots := [2, 3, 13, 76, 77, 78]) (ali := []) (ins := i24_4) (writes := [79, 80, 81, 82, 14, 15, 83, 84, 85, 86, 87, 88, 89, 90, 91, 92, 93]) (exits := [4]) (rets := false) (rs := res24) (d := 3) (lib24_2 K) lp24_4 trivial (by kernel_rfl) (by kernel_rfl) (by kernel_rfl) (by kernel_rfl) (by kernel_rfl) (fun k x => impll24_4 K k x.1 x.2.1 x.2.2.1 x.2.2.2.1 x.2.2.2.2.1 x.2.2.2.2.2.1) (fun _ => rfl) (fun k x => q24_4 K (impll24_4 K k) x.1 x.2.1 x.2.2.1 x.2.2.2.1 x.2.2.2.2.1 x.2.2.2.2.2.1) K
noncomputable def L24_3 (K : Nat) : Lib := mkLib ti [(30, [e30 K]), (61, [e61 K])] [] 24 [(2, [n24_2 K]), (0, [n24_0 K]), (4, [n24_4 K])]
theorem lib24_3 (K : Nat) : LibOk Try.prog (L24_3 K) := libOk_mk (ents := [(30, [e30 K]), (61, [e61 K])]) (bodies := []) (loops := [(2, [n24_2 K]), (0, [n24_0 K]), (4, [n24_4 K])]) order tiOk ⟨one_ent (e30_ok K), one_ent (e61_ok K), trivial⟩ trivial Try.func24 rfl lp24 ⟨one_lent (n24_0_ok K), one_lent (n24_2_ok K), one_lent (n24_4_ok K), trivial⟩
noncomputable def implf24 (K : Nat) (x1 : ((List (List Int)) × (List Int))) (x2 : Int) (x3 : Int) : Option (Int × Int) :=
  (ob (implf30 K x1) fun y1 => (bif y1 != (0 : Int) then some (((0 : Int), y1)) else (ob (implf61 K x2 ((0 : Int)) ((20 : Int))) fun y2 => (bif !y2 then some (((0 : Int), (1 : Int))) else (ob (implf61 K x3 ((0 : Int)) ((3 : Int))) fun y3 => (bif !y3 then some (((0 : Int), (1 : Int))) else (if (0 : Int) ≤ (↑x1.1.length : Int) ∧ (↑x1.1.length : Int) * (8 : Int) ≤ (140737488355328 : Int) then (if (0 : Int) ≤ (0 : Int) ∧ (0 : Int) < (↑(List.replicate (↑x1.1.length : Int).toNat ((0 : Int))).length : Int) then (ob (impll24_0 K K x3 x1 ((List.replicate (↑x1.1.length : Int).toNat ((0 : Int))).set (0) ((1 : Int))) x2 ((0 : Int))) fun y4 => (ob (impll24_4 K K x3 x1 ((0 : Int)) y4.1 ((↑y4.1.length : Int)) ((0 : Int))) fun y5 => some ((y5.1, (0 : Int))))) else none) else none)))))))
theorem q24 (K : Nat) (x1 : ((List (List Int)) × (List Int))) (x2 : Int) (x3 : Int) : evFnK (α := Int × Int) (L24_3 K) 3 24 Try.f24.results.toList (codeOf Try.f24) ins24 res24 (fun p => (p.1.1, p.1.2.1)) (x1, x2, x3, ()) = implf24 K x1 x2 x3 := by kernel_rfl
noncomputable def e24 (K : Nat) : Ent := ⟨ins24, res24, Int × Int, fun x => implf24 K x.1 x.2.1 x.2.2.1, fun _ => (fun y => ((y.1, y.2, ()), (()))), false⟩
theorem e24_ok (K : Nat) : EntOk Try.prog 24 (e24 K) := entOk_k (ins := ins24) (rs := res24) (α := Int × Int) (lib24_3 K) (d := 3) Try.func24 rfl (by kernel_rfl) (by kernel_rfl) (by kernel_rfl) (fun x => implf24 K x.1 x.2.1 x.2.2.1) (fun p => (p.1.1, p.1.2.1)) (fun y => ((y.1, y.2, ()), (()))) (fun _ => rfl) (fun x => q24 K x.1 x.2.1 x.2.2.1)

end Go.Proofs.Ythdmngalhppkcaa
