/- What the functions compute: printed by a program of this claim's author. -/
import Derived.Test.YtdgibokmaannjaaR6
set_option maxRecDepth 100000
set_option linter.unusedVariables false
set_option linter.unusedSimpArgs false
namespace Go.Proofs.Ytdgibokmaannjaa
open Go Go.Pv

/-! cmp.Compare[int] -/
abbrev ins110 : Fs := [(.dat (.int .i64), false), (.dat (.int .i64), false)]
abbrev res110 : Sh := .dat (.int .i64)
theorem lp110 : loopsIn (codeOf Try.f110) 0 = [] := by kernel_rfl
noncomputable def L110_0 (K : Nat) : Lib := mkLib ti [] [(124, Try.f124)] 110 []
theorem lib110_0 (K : Nat) : LibOk Try.prog (L110_0 K) := libOk_mk (ents := []) (bodies := [(124, Try.f124)]) (loops := []) order tiOk trivial ⟨bod124, trivial⟩ Try.func110 rfl lp110 trivial
noncomputable def implf110 (K : Nat) (x1 : Int) (x2 : Int) : Option (Int) :=
  (bif x1 != x1 then (bif x2 != x2 then some ((0 : Int)) else some ((-1 : Int))) else (bif x2 != x2 then some ((1 : Int)) else (bif decide (x1 < x2) then some ((-1 : Int)) else (bif decide (x1 > x2) then some ((1 : Int)) else some ((0 : Int))))))
theorem q110 (K : Nat) (x1 : Int) (x2 : Int) : evFnK (α := Int) (L110_0 K) 3 110 Try.f110.results.toList (codeOf Try.f110) ins110 res110 (fun p => p.1) (x1, x2, ()) = implf110 K x1 x2 := by kernel_rfl
noncomputable def e110 (K : Nat) : Ent := ⟨ins110, res110, Int, fun x => implf110 K x.1 x.2.1, fun _ => (fun y => (y, (()))), false⟩
theorem e110_ok (K : Nat) : EntOk Try.prog 110 (e110 K) := entOk_k (ins := ins110) (rs := res110) (α := Int) (lib110_0 K) (d := 3) Try.func110 rfl (by kernel_rfl) (by kernel_rfl) (by kernel_rfl) (fun x => implf110 K x.1 x.2.1) (fun p => p.1) (fun y => (y, (()))) (fun _ => rfl) (fun x => q110 K x.1 x.2.1)

/-! slices.Compare[[]int,int] -/
abbrev ins94 : Fs := [(.dat (.sl (.int .i64)), false), (.dat (.sl (.int .i64)), false)]
abbrev res94 : Sh := .dat (.int .i64)
theorem lp94 : loopsIn (codeOf Try.f94) 0 = [(0, loopOf 0 (codeOf Try.f94))] := by kernel_rfl
noncomputable def L94_0 (K : Nat) : Lib := mkLib ti [(110, [e110 K])] [] 94 []
theorem lib94_0 (K : Nat) : LibOk Try.prog (L94_0 K) := libOk_mk (ents := [(110, [e110 K])]) (bodies := []) (loops := []) order tiOk ⟨one_ent (e110_ok K), trivial⟩ trivial Try.func94 rfl lp94 ⟨no_lent, trivial⟩
abbrev i94_0 : Fs := [(.dat (.sl (.int Go.IntKind.i64)), false), (.dat (.sl (.int Go.IntKind.i64)), false), (.dat (.sl (.int Go.IntKind.i64)), false), (.dat (.int Go.IntKind.i64), false), (.dat (.int Go.IntKind.i64), true)]
noncomputable def implb94_0 (K : Nat) (rc : (List Int) → (List Int) → (List Int) → Int → Int → Option (Sum (Int × Unit) Int)) (x1 : (List Int)) (x2 : (List Int)) (x3 : (List Int)) (x4 : Int) (x5 : Int) : Option (Sum (Int × Unit) Int) :=
  (bif decide (x5 < x4) then (if (0 : Int) ≤ x5 ∧ x5 < (↑x3.length : Int) then (bif decide (x5 ≥ (↑x2.length : Int)) then some (Sum.inr ((1 : Int))) else (if (0 : Int) ≤ x5 ∧ x5 < (↑x2.length : Int) then (ob (implf110 K (x3.getD x5.toNat ((0 : Int))) (x2.getD x5.toNat ((0 : Int)))) fun y1 => (bif y1 != (0 : Int) then some (Sum.inr y1) else (rc x1 x2 x3 x4 (IntKind.i64.wrap (x5 + (1 : Int)))))) else none)) else none) else some (Sum.inl (x5, ())))
noncomputable def impll94_0 (K : Nat) : Nat → (List Int) → (List Int) → (List Int) → Int → Int → Option (Sum (Int × Unit) Int)
  | 0, _, _, _, _, _ => none
  | k + 1, x1, x2, x3, x4, x5 => implb94_0 K (impll94_0 K k) x1 x2 x3 x4 x5
noncomputable def n94_0 (K : Nat) : Lent := ⟨[0, 1, 9, 10, 11], i94_0, [12, 13, 14, 15, 5, 6, 16, 17, 18, 19, 4, 20, 21, 22, 23, 7, 24, 25, 26, 8, 27, 28, 29, 30], [0], true, res94, fun x => impll94_0 K K x.1 x.2.1 x.2.2.1 x.2.2.2.1 x.2.2.2.2.1, [], none⟩
theorem q94_0 (K : Nat) (rc : (List Int) → (List Int) → (List Int) → Int → Int → Option (Sum (Int × Unit) Int)) (x1 : (List Int)) (x2 : (List Int)) (x3 : (List Int)) (x4 : Int) (x5 : Int) : evLoop (L94_0 K) 3 94 Try.f94.results.toList (loopOf 0 (codeOf Try.f94)) 0 [0, 1, 9, 10, 11] [] i94_0 [0] true res94 (fun x => rc x.1 x.2.1 x.2.2.1 x.2.2.2.1 x.2.2.2.2.1) (x1, x2, x3, x4, x5, ()) = implb94_0 K rc x1 x2 x3 x4 x5 := by kernel_rfl
theorem lp94_0 : loopsIn (loopOf 0 (codeOf Try.f94)) 0 = [] := by kernel_rfl
theorem n94_0_ok (K : Nat) : LentOk Try.prog Try.f94 (loopOf 0 (codeOf Try.f94)) (n94_0 K) := lentOk_k (slots := [0, 1, 9, 10, 11]) (ali := []) (ins := i94_0) (writes := [12, 13, 14, 15, 5, 6, 16, 17, 18, 19, 4, 20, 21, 22, 23, 7, 24, 25, 26, 8, 27, 28, 29, 30]) (exits := [0]) (rets := true) (rs := res94) (d := 3) (lib94_0 K) lp94_0 trivial (by kernel_rfl) (by kernel_rfl) (by kernel_rfl) (by kernel_rfl) (by kernel_rfl) (fun k x => impll94_0 K k x.1 x.2.1 x.2.2.1 x.2.2.2.1 x.2.2.2.2.1) (fun _ => rfl) (fun k x => q94_0 K (impll94_0 K k) x.1 x.2.1 x.2.2.1 x.2.2.2.1 x.2.2.2.2.1) K
noncomputable def L94_1 (K : Nat) : Lib := mkLib ti [(110, [e110 K])] [] 94 [(0, [n94_0 K])]
theorem lib94_1 (K : Nat) : LibOk Try.prog (L94_1 K) := libOk_mk (ents := [(110, [e110 K])]) (bodies := []) (loops := [(0, [n94_0 K])]) order tiOk ⟨one_ent (e110_ok K), trivial⟩ trivial Try.func94 rfl lp94 ⟨one_lent (n94_0_ok K), trivial⟩
noncomputable def implf94 (K : Nat) (x1 : (List Int)) (x2 : (List Int)) : Option (Int) :=
  (ob (impll94_0 K K x1 x2 x1 ((↑x1.length : Int)) ((0 : Int))) fun y1 => (match y1 with | .inl y2 => (bif decide ((↑x1.length : Int) < (↑x2.length : Int)) then some ((-1 : Int)) else some ((0 : Int))) | .inr y2 => some (y2)))
theorem q94 (K : Nat) (x1 : (List Int)) (x2 : (List Int)) : evFnK (α := Int) (L94_1 K) 3 94 Try.f94.results.toList (codeOf Try.f94) ins94 res94 (fun p => p.1) (x1, x2, ()) = implf94 K x1 x2 := by kernel_rfl
noncomputable def e94 (K : Nat) : Ent := ⟨ins94, res94, Int, fun x => implf94 K x.1 x.2.1, fun _ => (fun y => (y, (()))), false⟩
theorem e94_ok (K : Nat) : EntOk Try.prog 94 (e94 K) := entOk_k (ins := ins94) (rs := res94) (α := Int) (lib94_1 K) (d := 3) Try.func94 rfl (by kernel_rfl) (by kernel_rfl) (by kernel_rfl) (fun x => implf94 K x.1 x.2.1) (fun p => p.1) (fun y => (y, (()))) (fun _ => rfl) (fun x => q94 K x.1 x.2.1)

/-! slices.Equal[[]int,int] -/
abbrev ins69 : Fs := [(.dat (.sl (.int .i64)), false), (.dat (.sl (.int .i64)), false)]
abbrev res69 : Sh := .dat (.bool)
theorem lp69 : loopsIn (codeOf Try.f69) 0 = [(0, loopOf 0 (codeOf Try.f69))] := by kernel_rfl
noncomputable def L69_0 (K : Nat) : Lib := mkLib ti [] [] 69 []
theorem lib69_0 (K : Nat) : LibOk Try.prog (L69_0 K) := libOk_mk (ents := []) (bodies := []) (loops := []) order tiOk trivial trivial Try.func69 rfl lp69 ⟨no_lent, trivial⟩
abbrev i69_0 : Fs := [(.dat (.sl (.int Go.IntKind.i64)), false), (.dat (.sl (.int Go.IntKind.i64)), false), (.dat (.int Go.IntKind.i64), false), (.dat (.int Go.IntKind.i64), true)]
noncomputable def implb69_0 (K : Nat) (rc : (List Int) → (List Int) → Int → Int → Option (Sum (Int × Unit) Bool)) (x1 : (List Int)) (x2 : (List Int)) (x3 : Int) (x4 : Int) : Option (Sum (Int × Unit) Bool) :=
  (bif decide (x4 < x3) then (if (0 : Int) ≤ x4 ∧ x4 < (↑x1.length : Int) then (if (0 : Int) ≤ x4 ∧ x4 < (↑x2.length : Int) then (bif x1.getD x4.toNat ((0 : Int)) != x2.getD x4.toNat ((0 : Int)) then some (Sum.inr false) else (rc x1 x2 x3 (IntKind.i64.wrap (x4 + (1 : Int))))) else none) else none) else some (Sum.inl (x4, ())))
noncomputable def impll69_0 (K : Nat) : Nat → (List Int) → (List Int) → Int → Int → Option (Sum (Int × Unit) Bool)
  | 0, _, _, _, _ => none
  | k + 1, x1, x2, x3, x4 => implb69_0 K (impll69_0 K k) x1 x2 x3 x4
noncomputable def n69_0 (K : Nat) : Lent := ⟨[0, 1, 12, 13], i69_0, [14, 15, 5, 16, 17, 18, 19, 20, 21, 22, 23, 24, 4, 25], [0], true, res69, fun x => impll69_0 K K x.1 x.2.1 x.2.2.1 x.2.2.2.1, [], none⟩
theorem q69_0 (K : Nat) (rc : (List Int) → (List Int) → Int → Int → Option (Sum (Int × Unit) Bool)) (x1 : (List Int)) (x2 : (List Int)) (x3 : Int) (x4 : Int) : evLoop (L69_0 K) 3 69 Try.f69.results.toList (loopOf 0 (codeOf Try.f69)) 0 [0, 1, 12, 13] [] i69_0 [0] true res69 (fun x => rc x.1 x.2.1 x.2.2.1 x.2.2.2.1) (x1, x2, x3, x4, ()) = implb69_0 K rc x1 x2 x3 x4 := by kernel_rfl
theorem lp69_0 : loopsIn (loopOf 0 (codeOf Try.f69)) 0 = [] := by kernel_rfl
theorem n69_0_ok (K : Nat) : LentOk Try.prog Try.f69 (loopOf 0 (codeOf Try.f69)) (n69_0 K) := lentOk_k (slots := [0, 1, 12, 13]) (ali := []) (ins := i69_0) (writes := [14, 15, 5, 16, 17, 18, 19, 20, 21, 22, 23, 24, 4, 25]) (exits := [0]) (rets := true) (rs := res69) (d := 3) (lib69_0 K) lp69_0 trivial (by kernel_rfl) (by kernel_rfl) (by kernel_rfl) (by kernel_rfl) (by kernel_rfl) (fun k x => impll69_0 K k x.1 x.2.1 x.2.2.1 x.2.2.2.1) (fun _ => rfl) (fun k x => q69_0 K (impll69_0 K k) x.1 x.2.1 x.2.2.1 x.2.2.2.1) K
noncomputable def L69_1 (K : Nat) : Lib := mkLib ti [] [] 69 [(0, [n69_0 K])]
theorem lib69_1 (K : Nat) : LibOk Try.prog (L69_1 K) := libOk_mk (ents := []) (bodies := []) (loops := [(0, [n69_0 K])]) order tiOk trivial trivial Try.func69 rfl lp69 ⟨one_lent (n69_0_ok K), trivial⟩
noncomputable def implf69 (K : Nat) (x1 : (List Int)) (x2 : (List Int)) : Option (Bool) :=
  (bif (↑x1.length : Int) != (↑x2.length : Int) then some (false) else (ob (impll69_0 K K x1 x2 ((↑x1.length : Int)) ((0 : Int))) fun y1 => (match y1 with | .inl y2 => some (true) | .inr y2 => some (y2))))
theorem q69 (K : Nat) (x1 : (List Int)) (x2 : (List Int)) : evFnK (α := Bool) (L69_1 K) 3 69 Try.f69.results.toList (codeOf Try.f69) ins69 res69 (fun p => p.1) (x1, x2, ()) = implf69 K x1 x2 := by kernel_rfl
noncomputable def e69 (K : Nat) : Ent := ⟨ins69, res69, Bool, fun x => implf69 K x.1 x.2.1, fun _ => (fun y => (y, (()))), false⟩
theorem e69_ok (K : Nat) : EntOk Try.prog 69 (e69 K) := entOk_k (ins := ins69) (rs := res69) (α := Bool) (lib69_1 K) (d := 3) Try.func69 rfl (by kernel_rfl) (by kernel_rfl) (by kernel_rfl) (fun x => implf69 K x.1 x.2.1) (fun p => p.1) (fun y => (y, (()))) (fun _ => rfl) (fun x => q69 K x.1 x.2.1)

/-! slices.Clone[[]int,int] -/
abbrev ins83 : Fs := [(.dat (.sl (.int .i64)), false)]
abbrev res83 : Sh := .own (.int .i64)
noncomputable def implf83 (K : Nat) (x1 : List Int) : Option (List Int) := if ((List.replicate 0 (Ty.dflt (.int .i64))).length + x1.length) * 8 ≤ 140737488355328 then some (List.replicate 0 (Ty.dflt (.int .i64)) ++ x1) else none
noncomputable def e83 (K : Nat) : Ent := ⟨ins83, res83, List Int, fun x => implf83 K x.1, fun _ => (fun y => (y, ())), false⟩
noncomputable def CC83 : Code := match codeOf Try.f83 with | .seq _ (.seq (.seq _ (.cond _ x _)) _) => x | _ => .skip
noncomputable def YY83 : Code := match codeOf Try.f83 with | .seq _ (.seq _ y) => y | _ => .skip
noncomputable def L83_0 (K : Nat) : Lib := mkLib ti [] [] 83 []
theorem lp83 : loopsIn (codeOf Try.f83) 0 = [] := by kernel_rfl
theorem lib83_0 (K : Nat) : LibOk Try.prog (L83_0 K) := libOk_mk (ents := []) (bodies := []) (loops := []) order tiOk trivial trivial Try.func83 rfl lp83 trivial
theorem e83_ok (K : Nat) : EntOk Try.prog 83 (e83 K) := by
  refine clone_ok (e := .int .i64) (rs := .own (.int .i64)) (lib83_0 K) Try.func83 rfl (by kernel_rfl) (by kernel_rfl) lp83 Try.underlying22 rfl (fun x => implf83 K x) (fun y => (y, ())) (fun xs => by kernel_rfl) ?_
  intro xs b y hy hb
  cases b with
  | true =>
    have := hb rfl
    subst this
    have : y = [] := by
      unfold implf83 at hy
      split at hy
      · cases hy; rfl
      · cases hy
    subst this
    refine Eq.trans (b := some (([] : List Int), ())) ?_ rfl
    kernel_rfl
  | false =>
    unfold implf83 at hy
    split at hy
    · rename_i h
      cases hy
      have e1 : ∀ xs : List Int, ev (L83_0 K) (inPlace (L83_0 K) 1) 83 Try.f83.results.toList (.seq (.cond (.tmp 4) CC83 .skip) YY83) 0 (fun ex st => match ex with | .normal => ob (resAV (L83_0 K) st Try.f83.results.toList) fun v => finish [(.dat (.sl (.int .i64)), false)] (.own (.int .i64)) (.cons (.dat (.sl (.int .i64)) xs) .un) [] (resOne v) st | _ => none) (fun v st => finish [(.dat (.sl (.int .i64)), false)] (.own (.int .i64)) (.cons (.dat (.sl (.int .i64)) xs) .un) [] v st) ⟨[(4, .dat .bool false), (3, .dat (.sl (.int .i64)) xs), (2, .nil), (0, .dat (.sl (.int .i64)) xs)], [], 0⟩ = (if ((List.replicate 0 (Ty.dflt (.int .i64))).length + xs.length) * 8 ≤ 140737488355328 then some (List.replicate 0 (Ty.dflt (.int .i64)) ++ xs, ()) else none) := fun xs => by kernel_rfl
      exact (e1 xs).trans (if_pos h)
    · cases hy

/-! diaphone/echo.shift -/
abbrev ins76 : Fs := [(.dat (.sl (.int .i64)), false), (.dat (.int .i64), false)]
abbrev res76 : Sh := .own (.int .i64)
theorem lp76 : loopsIn (codeOf Try.f76) 0 = [(0, loopOf 0 (codeOf Try.f76))] := by kernel_rfl
noncomputable def L76_0 (K : Nat) : Lib := mkLib ti [(83, [e83 K])] [] 76 []
theorem lib76_0 (K : Nat) : LibOk Try.prog (L76_0 K) := libOk_mk (ents := [(83, [e83 K])]) (bodies := []) (loops := []) order tiOk ⟨one_ent (e83_ok K), trivial⟩ trivial Try.func76 rfl lp76 ⟨no_lent, trivial⟩
abbrev i76_0 : Fs := [(.dat (.int Go.IntKind.i64), false), (.own (.int Go.IntKind.i64), true), (.dat (.int Go.IntKind.i64), false), (.dat (.int Go.IntKind.i64), true)]
noncomputable def implb76_0 (K : Nat) (rc : Int → (List Int) → Int → Int → Option ((List Int) × Int × Unit)) (x1 : Int) (x2 : (List Int)) (x3 : Int) (x4 : Int) : Option ((List Int) × Int × Unit) :=
  (bif decide (x4 < x3) then (if (0 : Int) ≤ x4 ∧ x4 < (↑x2.length : Int) then (if (0 : Int) ≤ x4 ∧ x4 < (↑x2.length : Int) then (rc x1 (x2.set x4.toNat (IntKind.i64.wrap (x2.getD x4.toNat ((0 : Int)) + x1))) x3 (IntKind.i64.wrap (x4 + (1 : Int)))) else none) else none) else some ((x2, x4, ())))
noncomputable def impll76_0 (K : Nat) : Nat → Int → (List Int) → Int → Int → Option ((List Int) × Int × Unit)
  | 0, _, _, _, _ => none
  | k + 1, x1, x2, x3, x4 => implb76_0 K (impll76_0 K k) x1 x2 x3 x4
noncomputable def n76_0 (K : Nat) : Lent := ⟨[1, 5, 10, 11], i76_0, [12, 13, 6, 14, 15, 16, 17, 18, 19, 20, 21], [0], false, res76, fun x => impll76_0 K K x.1 x.2.1 x.2.2.1 x.2.2.2.1, [], none⟩
theorem q76_0 (K : Nat) (rc : Int → (List Int) → Int → Int → Option ((List Int) × Int × Unit)) (x1 : Int) (x2 : (List Int)) (x3 : Int) (x4 : Int) : evLoop (L76_0 K) 3 76 Try.f76.results.toList (loopOf 0 (codeOf Try.f76)) 0 [1, 5, 10, 11] [] i76_0 [0] false res76 (fun x => rc x.1 x.2.1 x.2.2.1 x.2.2.2.1) (x1, x2, x3, x4, ()) = implb76_0 K rc x1 x2 x3 x4 := by kernel_rfl
theorem lp76_0 : loopsIn (loopOf 0 (codeOf Try.f76)) 0 = [] := by kernel_rfl
theorem n76_0_ok (K : Nat) : LentOk Try.prog Try.f76 (loopOf 0 (codeOf Try.f76)) (n76_0 K) := lentOk_k (slots := [1, 5, 10, 11]) (ali := []) (ins := i76_0) (writes := [12, 13, 6, 14, 15, 16, 17, 18, 19, 20, 21]) (exits := [0]) (rets := false) (rs := res76) (d := 3) (lib76_0 K) lp76_0 trivial (by kernel_rfl) (by kernel_rfl) (by kernel_rfl) (by kernel_rfl) (by kernel_rfl) (fun k x => impll76_0 K k x.1 x.2.1 x.2.2.1 x.2.2.2.1) (fun _ => rfl) (fun k x => q76_0 K (impll76_0 K k) x.1 x.2.1 x.2.2.1 x.2.2.2.1) K
noncomputable def L76_1 (K : Nat) : Lib := mkLib ti [(83, [e83 K])] [] 76 [(0, [n76_0 K])]
theorem lib76_1 (K : Nat) : LibOk Try.prog (L76_1 K) := libOk_mk (ents := [(83, [e83 K])]) (bodies := []) (loops := [(0, [n76_0 K])]) order tiOk ⟨one_ent (e83_ok K), trivial⟩ trivial Try.func76 rfl lp76 ⟨one_lent (n76_0_ok K), trivial⟩
noncomputable def implf76 (K : Nat) (x1 : (List Int)) (x2 : Int) : Option ((List Int)) :=
  (ob (implf83 K x1) fun y1 => (ob (impll76_0 K K x2 y1 ((↑y1.length : Int)) ((0 : Int))) fun y2 => some (y2.1)))
theorem q76 (K : Nat) (x1 : (List Int)) (x2 : Int) : evFnK (α := (List Int)) (L76_1 K) 3 76 Try.f76.results.toList (codeOf Try.f76) ins76 res76 (fun p => p.1) (x1, x2, ()) = implf76 K x1 x2 := by kernel_rfl
noncomputable def e76 (K : Nat) : Ent := ⟨ins76, res76, (List Int), fun x => implf76 K x.1 x.2.1, fun _ => (fun y => (y, (()))), false⟩
theorem e76_ok (K : Nat) : EntOk Try.prog 76 (e76 K) := entOk_k (ins := ins76) (rs := res76) (α := (List Int)) (lib76_1 K) (d := 3) Try.func76 rfl (by kernel_rfl) (by kernel_rfl) (by kernel_rfl) (fun x => implf76 K x.1 x.2.1) (fun p => p.1) (fun y => (y, (()))) (fun _ => rfl) (fun x => q76 K x.1 x.2.1)

/-! diaphone/echo.mirror -/
abbrev ins77 : Fs := [(.dat (.sl (.int .i64)), false)]
abbrev res77 : Sh := .own (.int .i64)
theorem lp77 : loopsIn (codeOf Try.f77) 0 = [] := by kernel_rfl
noncomputable def L77_0 (K : Nat) : Lib := mkLibR ti [] [(99, Try.f99), (113, Try.f113)] 77 [] [(77, 0, rd77)] [113] [] []
theorem lib77_0 (K : Nat) : LibOk Try.prog (L77_0 K) := libOk_mkR (ents := []) (bodies := [(99, Try.f99), (113, Try.f113)]) (loops := []) order tiOk trivial ⟨bod99, bod113, trivial⟩ Try.func77 rfl lp77 trivial (rngs := [(77, 0, rd77)]) ⟨rd77_at, trivial⟩ (frz := [113]) (opts := []) trivial
noncomputable def implf77 (K : Nat) (x1 : (List Int)) : Option ((List Int)) :=
  (bif match x1.length.ble 1000 with
| true => decide (0 < x1.length ∧ x1.length ≤ 1000)
| false => false then some (List.map (fun q => mirV x1 q.2) (backL x1 x1.length)) else none)
theorem q77 (K : Nat) (x1 : (List Int)) : evFnK (α := (List Int)) (L77_0 K) 3 77 Try.f77.results.toList (codeOf Try.f77) ins77 res77 (fun p => p.1) (x1, ()) = implf77 K x1 := by kernel_rfl
noncomputable def e77 (K : Nat) : Ent := ⟨ins77, res77, (List Int), fun x => implf77 K x.1, fun _ => (fun y => (y, (()))), false⟩
theorem e77_ok (K : Nat) : EntOk Try.prog 77 (e77 K) := entOk_k (ins := ins77) (rs := res77) (α := (List Int)) (lib77_0 K) (d := 3) Try.func77 rfl (by kernel_rfl) (by kernel_rfl) (by kernel_rfl) (fun x => implf77 K x.1) (fun p => p.1) (fun y => (y, (()))) (fun _ => rfl) (fun x => q77 K x.1)

/-! diaphone/echo.normal -/
abbrev ins74 : Fs := [(.dat (.sl (.int .i64)), false)]
abbrev res74 : Sh := .own (.int .i64)
theorem lp74 : loopsIn (codeOf Try.f74) 0 = [] := by kernel_rfl
noncomputable def L74_0 (K : Nat) : Lib := mkLib ti [(76, [e76 K]), (77, [e77 K]), (94, [e94 K])] [] 74 []
theorem lib74_0 (K : Nat) : LibOk Try.prog (L74_0 K) := libOk_mk (ents := [(76, [e76 K]), (77, [e77 K]), (94, [e94 K])]) (bodies := []) (loops := []) order tiOk ⟨one_ent (e76_ok K), one_ent (e77_ok K), one_ent (e94_ok K), trivial⟩ trivial Try.func74 rfl lp74 trivial
noncomputable def implf74 (K : Nat) (x1 : (List Int)) : Option ((List Int)) :=
  (if (0 : Int) ≤ (0 : Int) ∧ (0 : Int) < (↑x1.length : Int) then (ob (implf76 K x1 (IntKind.i64.wrap ((0 : Int) - x1.getD (0) ((0 : Int))))) fun y1 => (ob (implf77 K y1) fun y2 => (ob (implf94 K y2 y1) fun y3 => (bif decide (y3 < (0 : Int)) then some (y2) else some (y1))))) else none)
theorem q74 (K : Nat) (x1 : (List Int)) : evFnK (α := (List Int)) (L74_0 K) 3 74 Try.f74.results.toList (codeOf Try.f74) ins74 res74 (fun p => p.1) (x1, ()) = implf74 K x1 := by kernel_rfl
noncomputable def e74 (K : Nat) : Ent := ⟨ins74, res74, (List Int), fun x => implf74 K x.1, fun _ => (fun y => (y, (()))), false⟩
theorem e74_ok (K : Nat) : EntOk Try.prog 74 (e74 K) := entOk_k (ins := ins74) (rs := res74) (α := (List Int)) (lib74_0 K) (d := 3) Try.func74 rfl (by kernel_rfl) (by kernel_rfl) (by kernel_rfl) (fun x => implf74 K x.1) (fun p => p.1) (fun y => (y, (()))) (fun _ => rfl) (fun x => q74 K x.1)

/-! diaphone/echo.every$1 -/
abbrev ins96 : Fs := [(.dat (.sl (.int .i64)), false), (.box (.own (.sl (.int .i64))), true)]
abbrev res96 : Sh := .nix
theorem lp96 : loopsIn (codeOf Try.f96) 0 = [] := by kernel_rfl
noncomputable def L96_0 (K : Nat) : Lib := mkLib ti [(74, [e74 K])] [] 96 []
theorem lib96_0 (K : Nat) : LibOk Try.prog (L96_0 K) := libOk_mk (ents := [(74, [e74 K])]) (bodies := []) (loops := []) order tiOk ⟨one_ent (e74_ok K), trivial⟩ trivial Try.func96 rfl lp96 trivial
noncomputable def implf96 (K : Nat) (x1 : (List Int)) (x2 : (List (List Int))) : Option ((List (List Int))) :=
  (ob (implf74 K x1) fun y1 => (if (x2.length + ((List.replicate 1 []).set 0 y1).length) * 24 ≤ 140737488355328 then some (x2 ++ (List.replicate 1 []).set 0 y1) else none))
theorem q96 (K : Nat) (x1 : (List Int)) (x2 : (List (List Int))) : evFnK (α := (List (List Int))) (L96_0 K) 3 96 Try.f96.results.toList (codeOf Try.f96) ins96 res96 (fun p => p.2.1) (x1, x2, ()) = implf96 K x1 x2 := by kernel_rfl
noncomputable def e96 (K : Nat) : Ent := ⟨ins96, res96, (List (List Int)), fun x => implf96 K x.1 x.2.1, fun _ => (fun y => ((), (y, ()))), false⟩
theorem e96_ok (K : Nat) : EntOk Try.prog 96 (e96 K) := entOk_k (ins := ins96) (rs := res96) (α := (List (List Int))) (lib96_0 K) (d := 3) Try.func96 rfl (by kernel_rfl) (by kernel_rfl) (by kernel_rfl) (fun x => implf96 K x.1 x.2.1) (fun p => p.2.1) (fun y => ((), (y, ()))) (fun _ => rfl) (fun x => q96 K x.1 x.2.1)

/-! cmp.Less[int] -/
abbrev ins103 : Fs := [(.dat (.int .i64), false), (.dat (.int .i64), false)]
abbrev res103 : Sh := .dat (.bool)
theorem lp103 : loopsIn (codeOf Try.f103) 0 = [] := by kernel_rfl
noncomputable def L103_0 (K : Nat) : Lib := mkLib ti [] [(124, Try.f124)] 103 []
theorem lib103_0 (K : Nat) : LibOk Try.prog (L103_0 K) := libOk_mk (ents := []) (bodies := [(124, Try.f124)]) (loops := []) order tiOk trivial ⟨bod124, trivial⟩ Try.func103 rfl lp103 trivial
noncomputable def implf103 (K : Nat) (x1 : Int) (x2 : Int) : Option (Bool) :=
  (bif x1 != x1 then (bif !x2 != x2 then some (true) else some (decide (x1 < x2))) else some (decide (x1 < x2)))
theorem q103 (K : Nat) (x1 : Int) (x2 : Int) : evFnK (α := Bool) (L103_0 K) 3 103 Try.f103.results.toList (codeOf Try.f103) ins103 res103 (fun p => p.1) (x1, x2, ()) = implf103 K x1 x2 := by kernel_rfl
noncomputable def e103 (K : Nat) : Ent := ⟨ins103, res103, Bool, fun x => implf103 K x.1 x.2.1, fun _ => (fun y => (y, (()))), false⟩
theorem e103_ok (K : Nat) : EntOk Try.prog 103 (e103 K) := entOk_k (ins := ins103) (rs := res103) (α := Bool) (lib103_0 K) (d := 3) Try.func103 rfl (by kernel_rfl) (by kernel_rfl) (by kernel_rfl) (fun x => implf103 K x.1 x.2.1) (fun p => p.1) (fun y => (y, (()))) (fun _ => rfl) (fun x => q103 K x.1 x.2.1)

/-! slices.BinarySearch[[]int,int] -/
abbrev ins84 : Fs := [(.dat (.sl (.int .i64)), false), (.dat (.int .i64), false)]
abbrev res84 : Sh := .cons (.dat (.int .i64)) (.cons (.dat (.bool)) (.un))
theorem lp84 : loopsIn (codeOf Try.f84) 0 = [(0, loopOf 0 (codeOf Try.f84))] := by kernel_rfl
noncomputable def L84_0 (K : Nat) : Lib := mkLib ti [(103, [e103 K])] [(104, Try.f104)] 84 []
theorem lib84_0 (K : Nat) : LibOk Try.prog (L84_0 K) := libOk_mk (ents := [(103, [e103 K])]) (bodies := [(104, Try.f104)]) (loops := []) order tiOk ⟨one_ent (e103_ok K), trivial⟩ ⟨bod104, trivial⟩ Try.func84 rfl lp84 ⟨no_lent, trivial⟩
abbrev i84_0 : Fs := [(.dat (.sl (.int Go.IntKind.i64)), false), (.dat (.int Go.IntKind.i64), false), (.dat (.int Go.IntKind.i64), false), (.dat (.int Go.IntKind.i64), true), (.dat (.int Go.IntKind.i64), true)]
noncomputable def implb84_0 (K : Nat) (rc : (List Int) → Int → Int → Int → Int → Option (Int × Int × Unit)) (x1 : (List Int)) (x2 : Int) (x3 : Int) (x4 : Int) (x5 : Int) : Option (Int × Int × Unit) :=
  (bif decide (x4 < x5) then (if (0 : Int) ≤ IntKind.i64.wrap ((IntKind.u64.wrap (IntKind.i64.wrap (x4 + x5))).fdiv ((2 : Int) ^ min (1) IntKind.u64.bits)) ∧ IntKind.i64.wrap ((IntKind.u64.wrap (IntKind.i64.wrap (x4 + x5))).fdiv ((2 : Int) ^ min (1) IntKind.u64.bits)) < (↑x1.length : Int) then (ob (implf103 K (x1.getD (IntKind.i64.wrap ((IntKind.u64.wrap (IntKind.i64.wrap (x4 + x5))).fdiv ((2 : Int) ^ min (1) IntKind.u64.bits))).toNat ((0 : Int))) x2) fun y1 => (bif y1 then (rc x1 x2 x3 (IntKind.i64.wrap (IntKind.i64.wrap ((IntKind.u64.wrap (IntKind.i64.wrap (x4 + x5))).fdiv ((2 : Int) ^ min (1) IntKind.u64.bits)) + (1 : Int))) x5) else (rc x1 x2 x3 x4 (IntKind.i64.wrap ((IntKind.u64.wrap (IntKind.i64.wrap (x4 + x5))).fdiv ((2 : Int) ^ min (1) IntKind.u64.bits)))))) else none) else some ((x4, x5, ())))
noncomputable def impll84_0 (K : Nat) : Nat → (List Int) → Int → Int → Int → Int → Option (Int × Int × Unit)
  | 0, _, _, _, _, _ => none
  | k + 1, x1, x2, x3, x4, x5 => implb84_0 K (impll84_0 K k) x1 x2 x3 x4 x5
noncomputable def n84_0 (K : Nat) : Lent := ⟨[0, 1, 6, 7, 8], i84_0, [13, 14, 15, 16, 17, 18, 19, 20, 21, 9, 22, 23, 24, 25, 26, 27, 28, 29, 30], [0], false, res84, fun x => impll84_0 K K x.1 x.2.1 x.2.2.1 x.2.2.2.1 x.2.2.2.2.1, [], none⟩
theorem q84_0 (K : Nat) (rc : (List Int) → Int → Int → Int → Int → Option (Int × Int × Unit)) (x1 : (List Int)) (x2 : Int) (x3 : Int) (x4 : Int) (x5 : Int) : evLoop (L84_0 K) 3 84 Try.f84.results.toList (loopOf 0 (codeOf Try.f84)) 0 [0, 1, 6, 7, 8] [] i84_0 [0] false res84 (fun x => rc x.1 x.2.1 x.2.2.1 x.2.2.2.1 x.2.2.2.2.1) (x1, x2, x3, x4, x5, ()) = implb84_0 K rc x1 x2 x3 x4 x5 := by kernel_rfl
theorem lp84_0 : loopsIn (loopOf 0 (codeOf Try.f84)) 0 = [] := by kernel_rfl
theorem n84_0_ok (K : Nat) : LentOk Try.prog Try.f84 (loopOf 0 (codeOf Try.f84)) (n84_0 K) := lentOk_k (slots := [0, 1, 6, 7, 8]) (ali := []) (ins := i84_0) (writes := [13, 14, 15, 16, 17, 18, 19, 20, 21, 9, 22, 23, 24, 25, 26, 27, 28, 29, 30]) (exits := [0]) (rets := false) (rs := res84) (d := 3) (lib84_0 K) lp84_0 trivial (by kernel_rfl) (by kernel_rfl) (by kernel_rfl) (by kernel_rfl) (by kernel_rfl) (fun k x => impll84_0 K k x.1 x.2.1 x.2.2.1 x.2.2.2.1 x.2.2.2.2.1) (fun _ => rfl) (fun k x => q84_0 K (impll84_0 K k) x.1 x.2.1 x.2.2.1 x.2.2.2.1 x.2.2.2.2.1) K
noncomputable def L84_1 (K : Nat) : Lib := mkLib ti [(103, [e103 K])] [(104, Try.f104)] 84 [(0, [n84_0 K])]
theorem lib84_1 (K : Nat) : LibOk Try.prog (L84_1 K) := libOk_mk (ents := [(103, [e103 K])]) (bodies := [(104, Try.f104)]) (loops := [(0, [n84_0 K])]) order tiOk ⟨one_ent (e103_ok K), trivial⟩ ⟨bod104, trivial⟩ Try.func84 rfl lp84 ⟨one_lent (n84_0_ok K), trivial⟩
noncomputable def implf84 (K : Nat) (x1 : (List Int)) (x2 : Int) : Option (Int × Bool) :=
  (ob (impll84_0 K K x1 x2 ((↑x1.length : Int)) ((0 : Int)) ((↑x1.length : Int))) fun y1 => (bif decide (y1.1 < (↑x1.length : Int)) then (if (0 : Int) ≤ y1.1 ∧ y1.1 < (↑x1.length : Int) then (bif x1.getD y1.1.toNat ((0 : Int)) == x2 then some ((y1.1, true)) else (if (0 : Int) ≤ y1.1 ∧ y1.1 < (↑x1.length : Int) then (bif x1.getD y1.1.toNat ((0 : Int)) != x1.getD y1.1.toNat ((0 : Int)) then some ((y1.1, x2 != x2)) else some ((y1.1, false))) else none)) else none) else some ((y1.1, false))))
theorem q84 (K : Nat) (x1 : (List Int)) (x2 : Int) : evFnK (α := Int × Bool) (L84_1 K) 3 84 Try.f84.results.toList (codeOf Try.f84) ins84 res84 (fun p => (p.1.1, p.1.2.1)) (x1, x2, ()) = implf84 K x1 x2 := by kernel_rfl
noncomputable def e84 (K : Nat) : Ent := ⟨ins84, res84, Int × Bool, fun x => implf84 K x.1 x.2.1, fun _ => (fun y => ((y.1, y.2, ()), (()))), false⟩
theorem e84_ok (K : Nat) : EntOk Try.prog 84 (e84 K) := entOk_k (ins := ins84) (rs := res84) (α := Int × Bool) (lib84_1 K) (d := 3) Try.func84 rfl (by kernel_rfl) (by kernel_rfl) (by kernel_rfl) (fun x => implf84 K x.1 x.2.1) (fun p => (p.1.1, p.1.2.1)) (fun y => ((y.1, y.2, ()), (()))) (fun _ => rfl) (fun x => q84 K x.1 x.2.1)

/-! slices.Insert[[]int,int] -/
abbrev ins86 : Fs := [(.own (.int .i64), false), (.dat (.int .i64), false), (.own (.int .i64), false)]
abbrev res86 : Sh := .own (.int .i64)
noncomputable def implf86 (K : Nat) (x1 : List Int) (x2 : Int) (x3 : List Int) : Option (List Int) := if 0 ≤ x2 ∧ x2 ≤ (x1.length : Int) ∧ x1.length ≤ 1000 ∧ x3.length = 1 then some (x1.take x2.toNat ++ x3 ++ x1.drop x2.toNat) else none
noncomputable def e86 (K : Nat) : Ent := ⟨ins86, res86, List Int, fun x => implf86 K x.1 x.2.1 x.2.2.1, fun _ => (fun y => (y, ())), true⟩
theorem e86_ok (K : Nat) : EntOk Try.prog 86 (e86 K) := insert_ent86

/-! slices.Index[[]int,int] -/
abbrev ins100 : Fs := [(.dat (.sl (.int .i64)), false), (.dat (.int .i64), false)]
abbrev res100 : Sh := .dat (.int .i64)
theorem lp100 : loopsIn (codeOf Try.f100) 0 = [(0, loopOf 0 (codeOf Try.f100))] := by kernel_rfl
noncomputable def L100_0 (K : Nat) : Lib := mkLib ti [] [] 100 []
theorem lib100_0 (K : Nat) : LibOk Try.prog (L100_0 K) := libOk_mk (ents := []) (bodies := []) (loops := []) order tiOk trivial trivial Try.func100 rfl lp100 ⟨no_lent, trivial⟩
abbrev i100_0 : Fs := [(.dat (.sl (.int Go.IntKind.i64)), false), (.dat (.int Go.IntKind.i64), false), (.dat (.int Go.IntKind.i64), false), (.dat (.int Go.IntKind.i64), true)]
noncomputable def implb100_0 (K : Nat) (rc : (List Int) → Int → Int → Int → Option (Sum (Int × Unit) Int)) (x1 : (List Int)) (x2 : Int) (x3 : Int) (x4 : Int) : Option (Sum (Int × Unit) Int) :=
  (bif decide (x4 < x3) then (if (0 : Int) ≤ x4 ∧ x4 < (↑x1.length : Int) then (bif x2 == x1.getD x4.toNat ((0 : Int)) then some (Sum.inr x4) else (rc x1 x2 x3 (IntKind.i64.wrap (x4 + (1 : Int))))) else none) else some (Sum.inl (x4, ())))
noncomputable def impll100_0 (K : Nat) : Nat → (List Int) → Int → Int → Int → Option (Sum (Int × Unit) Int)
  | 0, _, _, _, _ => none
  | k + 1, x1, x2, x3, x4 => implb100_0 K (impll100_0 K k) x1 x2 x3 x4
noncomputable def n100_0 (K : Nat) : Lent := ⟨[0, 1, 7, 8], i100_0, [9, 10, 5, 11, 12, 13, 14, 15, 16, 17, 4, 18], [0], true, res100, fun x => impll100_0 K K x.1 x.2.1 x.2.2.1 x.2.2.2.1, [], none⟩
theorem q100_0 (K : Nat) (rc : (List Int) → Int → Int → Int → Option (Sum (Int × Unit) Int)) (x1 : (List Int)) (x2 : Int) (x3 : Int) (x4 : Int) : evLoop (L100_0 K) 3 100 Try.f100.results.toList (loopOf 0 (codeOf Try.f100)) 0 [0, 1, 7, 8] [] i100_0 [0] true res100 (fun x => rc x.1 x.2.1 x.2.2.1 x.2.2.2.1) (x1, x2, x3, x4, ()) = implb100_0 K rc x1 x2 x3 x4 := by kernel_rfl
theorem lp100_0 : loopsIn (loopOf 0 (codeOf Try.f100)) 0 = [] := by kernel_rfl
theorem n100_0_ok (K : Nat) : LentOk Try.prog Try.f100 (loopOf 0 (codeOf Try.f100)) (n100_0 K) := lentOk_k (slots := [0, 1, 7, 8]) (ali := []) (ins := i100_0) (writes := [9, 10, 5, 11, 12, 13, 14, 15, 16, 17, 4, 18]) (exits := [0]) (rets := true) (rs := res100) (d := 3) (lib100_0 K) lp100_0 trivial (by kernel_rfl) (by kernel_rfl) (by kernel_rfl) (by kernel_rfl) (by kernel_rfl) (fun k x => impll100_0 K k x.1 x.2.1 x.2.2.1 x.2.2.2.1) (fun _ => rfl) (fun k x => q100_0 K (impll100_0 K k) x.1 x.2.1 x.2.2.1 x.2.2.2.1) K
noncomputable def L100_1 (K : Nat) : Lib := mkLib ti [] [] 100 [(0, [n100_0 K])]
theorem lib100_1 (K : Nat) : LibOk Try.prog (L100_1 K) := libOk_mk (ents := []) (bodies := []) (loops := [(0, [n100_0 K])]) order tiOk trivial trivial Try.func100 rfl lp100 ⟨one_lent (n100_0_ok K), trivial⟩
noncomputable def implf100 (K : Nat) (x1 : (List Int)) (x2 : Int) : Option (Int) :=
  (ob (impll100_0 K K x1 x2 ((↑x1.length : Int)) ((0 : Int))) fun y1 => (match y1 with | .inl y2 => some ((-1 : Int)) | .inr y2 => some (y2)))
theorem q100 (K : Nat) (x1 : (List Int)) (x2 : Int) : evFnK (α := Int) (L100_1 K) 3 100 Try.f100.results.toList (codeOf Try.f100) ins100 res100 (fun p => p.1) (x1, x2, ()) = implf100 K x1 x2 := by kernel_rfl
noncomputable def e100 (K : Nat) : Ent := ⟨ins100, res100, Int, fun x => implf100 K x.1 x.2.1, fun _ => (fun y => (y, (()))), false⟩
theorem e100_ok (K : Nat) : EntOk Try.prog 100 (e100 K) := entOk_k (ins := ins100) (rs := res100) (α := Int) (lib100_1 K) (d := 3) Try.func100 rfl (by kernel_rfl) (by kernel_rfl) (by kernel_rfl) (fun x => implf100 K x.1 x.2.1) (fun p => p.1) (fun y => (y, (()))) (fun _ => rfl) (fun x => q100 K x.1 x.2.1)

/-! slices.Delete[[]int,int] -/
abbrev ins141 : Fs := [(.own (.int .i64), false), (.dat (.int .i64), false), (.dat (.int .i64), false)]
abbrev res141 : Sh := .own (.int .i64)
noncomputable def implf141 (K : Nat) (x1 : List Int) (x2 : Int) (x3 : Int) : Option (List Int) := if 0 ≤ x2 ∧ x2 ≤ x3 ∧ x3 ≤ (x1.length : Int) then some (x1.take x2.toNat ++ x1.drop x3.toNat) else none
noncomputable def e141 (K : Nat) : Ent := ⟨ins141, res141, List Int, fun x => implf141 K x.1 x.2.1 x.2.2.1, fun _ => (fun y => (y, ())), true⟩
theorem e141_ok (K : Nat) : EntOk Try.prog 141 (e141 K) := delete_ent141

/-! diaphone/echo.without -/
abbrev ins126 : Fs := [(.dat (.sl (.int .i64)), false), (.dat (.sl (.int .i64)), false)]
abbrev res126 : Sh := .cons (.own (.int .i64)) (.cons (.dat (.bool)) (.un))
theorem lp126 : loopsIn (codeOf Try.f126) 0 = [(0, loopOf 0 (codeOf Try.f126))] := by kernel_rfl
noncomputable def L126_0 (K : Nat) : Lib := mkLib ti [(83, [e83 K]), (100, [e100 K]), (141, [e141 K])] [] 126 []
theorem lib126_0 (K : Nat) : LibOk Try.prog (L126_0 K) := libOk_mk (ents := [(83, [e83 K]), (100, [e100 K]), (141, [e141 K])]) (bodies := []) (loops := []) order tiOk ⟨one_ent (e83_ok K), one_ent (e100_ok K), one_ent (e141_ok K), trivial⟩ trivial Try.func126 rfl lp126 ⟨no_lent, trivial⟩
abbrev i126_0 : Fs := [(.own (.int Go.IntKind.i64), true), (.dat (.sl (.int Go.IntKind.i64)), false), (.dat (.int Go.IntKind.i64), false), (.dat (.int Go.IntKind.i64), true)]
noncomputable def implb126_0 (K : Nat) (rc : (List Int) → (List Int) → Int → Int → Option (Sum ((List Int) × Int × Unit) ((List Int) × Bool × Unit))) (x1 : (List Int)) (x2 : (List Int)) (x3 : Int) (x4 : Int) : Option (Sum ((List Int) × Int × Unit) ((List Int) × Bool × Unit)) :=
  (bif decide (x4 < x3) then (if (0 : Int) ≤ x4 ∧ x4 < (↑x2.length : Int) then (ob (implf100 K x1 (x2.getD x4.toNat ((0 : Int)))) fun y1 => (bif decide (y1 < (0 : Int)) then some (Sum.inr ([], false, ())) else (ob (implf141 K x1 y1 (IntKind.i64.wrap (y1 + (1 : Int)))) fun y2 => (rc y2 x2 x3 (IntKind.i64.wrap (x4 + (1 : Int))))))) else none) else some (Sum.inl (x1, x4, ())))
noncomputable def impll126_0 (K : Nat) : Nat → (List Int) → (List Int) → Int → Int → Option (Sum ((List Int) × Int × Unit) ((List Int) × Bool × Unit))
  | 0, _, _, _, _ => none
  | k + 1, x1, x2, x3, x4 => implb126_0 K (impll126_0 K k) x1 x2 x3 x4
noncomputable def n126_0 (K : Nat) : Lent := ⟨[0, 11, 12, 13], i126_0, [14, 15, 16, 7, 17, 18, 19, 8, 20, 21, 4, 5, 22, 23, 24, 25, 26, 27], [0], true, res126, fun x => impll126_0 K K x.1 x.2.1 x.2.2.1 x.2.2.2.1, [], none⟩
theorem q126_0 (K : Nat) (rc : (List Int) → (List Int) → Int → Int → Option (Sum ((List Int) × Int × Unit) ((List Int) × Bool × Unit))) (x1 : (List Int)) (x2 : (List Int)) (x3 : Int) (x4 : Int) : evLoop (L126_0 K) 3 126 Try.f126.results.toList (loopOf 0 (codeOf Try.f126)) 0 [0, 11, 12, 13] [] i126_0 [0] true res126 (fun x => rc x.1 x.2.1 x.2.2.1 x.2.2.2.1) (x1, x2, x3, x4, ()) = implb126_0 K rc x1 x2 x3 x4 := by kernel_rfl
theorem lp126_0 : loopsIn (loopOf 0 (codeOf Try.f126)) 0 = [] := by kernel_rfl
theorem n126_0_ok (K : Nat) : LentOk Try.prog Try.f126 (loopOf 0 (codeOf Try.f126)) (n126_0 K) := lentOk_k (slots := [0, 11, 12, 13]) (ali := []) (ins := i126_0) (writes := [14, 15, 16, 7, 17, 18, 19, 8, 20, 21, 4, 5, 22, 23, 24, 25, 26, 27]) (exits := [0]) (rets := true) (rs := res126) (d := 3) (lib126_0 K) lp126_0 trivial (by kernel_rfl) (by kernel_rfl) (by kernel_rfl) (by kernel_rfl) (by kernel_rfl) (fun k x => impll126_0 K k x.1 x.2.1 x.2.2.1 x.2.2.2.1) (fun _ => rfl) (fun k x => q126_0 K (impll126_0 K k) x.1 x.2.1 x.2.2.1 x.2.2.2.1) K
noncomputable def L126_1 (K : Nat) : Lib := mkLib ti [(83, [e83 K]), (100, [e100 K]), (141, [e141 K])] [] 126 [(0, [n126_0 K])]
theorem lib126_1 (K : Nat) : LibOk Try.prog (L126_1 K) := libOk_mk (ents := [(83, [e83 K]), (100, [e100 K]), (141, [e141 K])]) (bodies := []) (loops := [(0, [n126_0 K])]) order tiOk ⟨one_ent (e83_ok K), one_ent (e100_ok K), one_ent (e141_ok K), trivial⟩ trivial Try.func126 rfl lp126 ⟨one_lent (n126_0_ok K), trivial⟩
noncomputable def implf126 (K : Nat) (x1 : (List Int)) (x2 : (List Int)) : Option ((List Int) × Bool) :=
  (ob (implf83 K x1) fun y1 => (ob (impll126_0 K K y1 x2 ((↑x2.length : Int)) ((0 : Int))) fun y2 => (match y2 with | .inl y3 => some ((y3.1, true)) | .inr y3 => some ((y3.1, y3.2.1)))))
theorem q126 (K : Nat) (x1 : (List Int)) (x2 : (List Int)) : evFnK (α := (List Int) × Bool) (L126_1 K) 3 126 Try.f126.results.toList (codeOf Try.f126) ins126 res126 (fun p => (p.1.1, p.1.2.1)) (x1, x2, ()) = implf126 K x1 x2 := by kernel_rfl
noncomputable def e126 (K : Nat) : Ent := ⟨ins126, res126, (List Int) × Bool, fun x => implf126 K x.1 x.2.1, fun _ => (fun y => ((y.1, y.2, ()), (()))), false⟩
theorem e126_ok (K : Nat) : EntOk Try.prog 126 (e126 K) := entOk_k (ins := ins126) (rs := res126) (α := (List Int) × Bool) (lib126_1 K) (d := 3) Try.func126 rfl (by kernel_rfl) (by kernel_rfl) (by kernel_rfl) (fun x => implf126 K x.1 x.2.1) (fun p => (p.1.1, p.1.2.1)) (fun y => ((y.1, y.2, ()), (()))) (fun _ => rfl) (fun x => q126 K x.1 x.2.1)

/-! diaphone/echo.search -/
abbrev ins111 : Fs := [(.dat (.sl (.int .i64)), false), (.dat (.sl (.int .i64)), false), (.fn 96 (.cons (.box (.own (.sl (.int .i64)))) .un), true)]
abbrev res111 : Sh := .nix
noncomputable def e111r (K : Nat) (rs : (List Int) → (List Int) → ((List (List Int)) × Unit) → Option (((List (List Int)) × Unit))) : Ent := ⟨ins111, res111, ((List (List Int)) × Unit), fun x => rs x.1 x.2.1 x.2.2.1, fun _ => (fun y => ((), (y, ()))), false⟩
theorem lp111 : loopsIn (codeOf Try.f111) 0 = [(0, loopOf 0 (codeOf Try.f111)), (2, loopOf 2 (codeOf Try.f111))] := by kernel_rfl
noncomputable def L111_0 (K : Nat) (rs : (List Int) → (List Int) → ((List (List Int)) × Unit) → Option (((List (List Int)) × Unit))) : Lib := mkLib ti [(83, [e83 K]), (84, [e84 K]), (86, [e86 K]), (96, [e96 K]), (126, [e126 K]), (111, [e111r K rs])] [] 111 []
theorem lib111_0 (K : Nat) (rs : (List Int) → (List Int) → ((List (List Int)) × Unit) → Option (((List (List Int)) × Unit))) (hrs : EntOk Try.prog 111 (e111r K rs)) : LibOk Try.prog (L111_0 K rs) := libOk_mk (ents := [(83, [e83 K]), (84, [e84 K]), (86, [e86 K]), (96, [e96 K]), (126, [e126 K]), (111, [e111r K rs])]) (bodies := []) (loops := []) order tiOk ⟨one_ent (e83_ok K), one_ent (e84_ok K), one_ent (e86_ok K), one_ent (e96_ok K), one_ent (e126_ok K), one_ent hrs, trivial⟩ trivial Try.func111 rfl lp111 ⟨no_lent, no_lent, trivial⟩
abbrev i111_0 : Fs := [(.dat (.sl (.int Go.IntKind.i64)), false), (.dat (.sl (.int Go.IntKind.i64)), false), (.fn 96 (.cons (.box (.own (.sl (.int Go.IntKind.i64)))) (.un)), true), (.own (.int Go.IntKind.i64), false), (.dat (.int Go.IntKind.i64), false), (.dat (.int Go.IntKind.i64), true)]
abbrev i111_2 : Fs := [(.dat (.sl (.int Go.IntKind.i64)), false), (.dat (.sl (.int Go.IntKind.i64)), false), (.fn 96 (.cons (.box (.own (.sl (.int Go.IntKind.i64)))) (.un)), true), (.dat (.int Go.IntKind.i64), false), (.dat (.int Go.IntKind.i64), false), (.own (.int .i64), true), (.own (.int Go.IntKind.i64), false), (.dat (.int Go.IntKind.i64), false), (.dat (.int Go.IntKind.i64), false), (.dat (.sl (.int Go.IntKind.i64)), false), (.dat (.int Go.IntKind.i64), false), (.dat (.int Go.IntKind.i64), true)]
noncomputable def implb111_2 (K : Nat) (rs : (List Int) → (List Int) → ((List (List Int)) × Unit) → Option (((List (List Int)) × Unit))) (rc : (List Int) → (List Int) → ((List (List Int)) × Unit) → Int → Int → (List Int) → (List Int) → Int → Int → (List Int) → Int → Int → Option (((List (List Int)) × Unit) × (List Int) × Int × Unit)) (x1 : (List Int)) (x2 : (List Int)) (x3 : ((List (List Int)) × Unit)) (x4 : Int) (x5 : Int) (x6 : (List Int)) (x7 : (List Int)) (x8 : Int) (x9 : Int) (x10 : (List Int)) (x11 : Int) (x12 : Int) : Option (((List (List Int)) × Unit) × (List Int) × Int × Unit) :=
  (bif decide (x12 < x11) then (if (0 : Int) ≤ x12 ∧ x12 < (↑x10.length : Int) then (if (x6.length + ((List.replicate 1 ((0 : Int))).set 0 (max (IntKind.i64.wrap (x4 - x10.getD x12.toNat ((0 : Int)))) (IntKind.i64.wrap (x10.getD x12.toNat ((0 : Int)) - x4)))).length) * 8 ≤ 140737488355328 then (rc x1 x2 (x3.1, ()) x4 x5 (x6 ++ (List.replicate 1 ((0 : Int))).set 0 (max (IntKind.i64.wrap (x4 - x10.getD x12.toNat ((0 : Int)))) (IntKind.i64.wrap (x10.getD x12.toNat ((0 : Int)) - x4)))) x7 x8 x9 x10 x11 (IntKind.i64.wrap (x12 + (1 : Int)))) else none) else none) else some (((x3.1, ()), x6, x12, ())))
noncomputable def impll111_2 (K : Nat) (rs : (List Int) → (List Int) → ((List (List Int)) × Unit) → Option (((List (List Int)) × Unit))) : Nat → (List Int) → (List Int) → ((List (List Int)) × Unit) → Int → Int → (List Int) → (List Int) → Int → Int → (List Int) → Int → Int → Option (((List (List Int)) × Unit) × (List Int) × Int × Unit)
  | 0, _, _, _, _, _, _, _, _, _, _, _, _ => none
  | k + 1, x1, x2, x3, x4, x5, x6, x7, x8, x9, x10, x11, x12 => implb111_2 K rs (impll111_2 K rs k) x1 x2 x3 x4 x5 x6 x7 x8 x9 x10 x11 x12
noncomputable def n111_2 (K : Nat) (rs : (List Int) → (List Int) → ((List (List Int)) × Unit) → Option (((List (List Int)) × Unit))) : Lent := ⟨[0, 1, 2, 8, 9, 11, 37, 38, 39, 60, 61, 62], i111_2, [63, 64, 65, 13, 66, 67, 68, 69, 70, 71, 72, 73, 74, 75, 76], [2], false, res111, fun x => impll111_2 K rs K x.1 x.2.1 x.2.2.1 x.2.2.2.1 x.2.2.2.2.1 x.2.2.2.2.2.1 x.2.2.2.2.2.2.1 x.2.2.2.2.2.2.2.1 x.2.2.2.2.2.2.2.2.1 x.2.2.2.2.2.2.2.2.2.1 x.2.2.2.2.2.2.2.2.2.2.1 x.2.2.2.2.2.2.2.2.2.2.2.1, [], none⟩
theorem q111_2 (K : Nat) (rs : (List Int) → (List Int) → ((List (List Int)) × Unit) → Option (((List (List Int)) × Unit))) (rc : (List Int) → (List Int) → ((List (List Int)) × Unit) → Int → Int → (List Int) → (List Int) → Int → Int → (List Int) → Int → Int → Option (((List (List Int)) × Unit) × (List Int) × Int × Unit)) (x1 : (List Int)) (x2 : (List Int)) (x3 : ((List (List Int)) × Unit)) (x4 : Int) (x5 : Int) (x6 : (List Int)) (x7 : (List Int)) (x8 : Int) (x9 : Int) (x10 : (List Int)) (x11 : Int) (x12 : Int) : evLoop (L111_0 K rs) 3 111 Try.f111.results.toList (loopOf 2 (codeOf Try.f111)) 2 [0, 1, 2, 8, 9, 11, 37, 38, 39, 60, 61, 62] [] i111_2 [2] false res111 (fun x => rc x.1 x.2.1 x.2.2.1 x.2.2.2.1 x.2.2.2.2.1 x.2.2.2.2.2.1 x.2.2.2.2.2.2.1 x.2.2.2.2.2.2.2.1 x.2.2.2.2.2.2.2.2.1 x.2.2.2.2.2.2.2.2.2.1 x.2.2.2.2.2.2.2.2.2.2.1 x.2.2.2.2.2.2.2.2.2.2.2.1) (x1, x2, x3, x4, x5, x6, x7, x8, x9, x10, x11, x12, ()) = implb111_2 K rs rc x1 x2 x3 x4 x5 x6 x7 x8 x9 x10 x11 x12 := by kernel_rfl
theorem lp111_2 : loopsIn (loopOf 2 (codeOf Try.f111)) 2 = [] := by kernel_rfl
theorem n111_2_ok (K : Nat) (rs : (List Int) → (List Int) → ((List (List Int)) × Unit) → Option (((List (List Int)) × Unit))) (hrs : EntOk Try.prog 111 (e111r K rs)) : LentOk Try.prog Try.f111 (loopOf 2 (codeOf Try.f111)) (n111_2 K rs) := lentOk_k (slots := [0, 1, 2, 8, 9, 11, 37, 38, 39, 60, 61, 62]) (ali := []) (ins := i111_2) (writes := [63, 64, 65, 13, 66, 67, 68, 69, 70, 71, 72, 73, 74, 75, 76]) (exits := [2]) (rets := false) (rs := res111) (d := 3) (lib111_0 K rs hrs) lp111_2 trivial (by kernel_rfl) (by kernel_rfl) (by kernel_rfl) (by kernel_rfl) (by kernel_rfl) (fun k x => impll111_2 K rs k x.1 x.2.1 x.2.2.1 x.2.2.2.1 x.2.2.2.2.1 x.2.2.2.2.2.1 x.2.2.2.2.2.2.1 x.2.2.2.2.2.2.2.1 x.2.2.2.2.2.2.2.2.1 x.2.2.2.2.2.2.2.2.2.1 x.2.2.2.2.2.2.2.2.2.2.1 x.2.2.2.2.2.2.2.2.2.2.2.1) (fun _ => rfl) (fun k x => q111_2 K rs (impll111_2 K rs k) x.1 x.2.1 x.2.2.1 x.2.2.2.1 x.2.2.2.2.1 x.2.2.2.2.2.1 x.2.2.2.2.2.2.1 x.2.2.2.2.2.2.2.1 x.2.2.2.2.2.2.2.2.1 x.2.2.2.2.2.2.2.2.2.1 x.2.2.2.2.2.2.2.2.2.2.1 x.2.2.2.2.2.2.2.2.2.2.2.1) K
noncomputable def L111_1 (K : Nat) (rs : (List Int) → (List Int) → ((List (List Int)) × Unit) → Option (((List (List Int)) × Unit))) : Lib := mkLib ti [(83, [e83 K]), (84, [e84 K]), (86, [e86 K]), (96, [e96 K]), (126, [e126 K]), (111, [e111r K rs])] [] 111 [(2, [n111_2 K rs])]
theorem lib111_1 (K : Nat) (rs : (List Int) → (List Int) → ((List (List Int)) × Unit) → Option (((List (List Int)) × Unit))) (hrs : EntOk Try.prog 111 (e111r K rs)) : LibOk Try.prog (L111_1 K rs) := libOk_mk (ents := [(83, [e83 K]), (84, [e84 K]), (86, [e86 K]), (96, [e96 K]), (126, [e126 K]), (111, [e111r K rs])]) (bodies := []) (loops := [(2, [n111_2 K rs])]) order tiOk ⟨one_ent (e83_ok K), one_ent (e84_ok K), one_ent (e86_ok K), one_ent (e96_ok K), one_ent (e126_ok K), one_ent hrs, trivial⟩ trivial Try.func111 rfl lp111 ⟨no_lent, one_lent (n111_2_ok K rs hrs), trivial⟩
noncomputable def implb111_0 (K : Nat) (rs : (List Int) → (List Int) → ((List (List Int)) × Unit) → Option (((List (List Int)) × Unit))) (rc : (List Int) → (List Int) → ((List (List Int)) × Unit) → (List Int) → Int → Int → Option (((List (List Int)) × Unit) × Int × Unit)) (x1 : (List Int)) (x2 : (List Int)) (x3 : ((List (List Int)) × Unit)) (x4 : (List Int)) (x5 : Int) (x6 : Int) : Option (((List (List Int)) × Unit) × Int × Unit) :=
  (bif decide (x6 < x5) then (if (0 : Int) ≤ x6 ∧ x6 < (↑x4.length : Int) then (ob (implf84 K x1 (x4.getD x6.toNat ((0 : Int)))) fun y1 => (bif y1.2 then (rc x1 x2 (x3.1, ()) x4 x5 (IntKind.i64.wrap (x6 + (1 : Int)))) else (bif y1.1 == (0 : Int) then (rc x1 x2 (x3.1, ()) x4 x5 (IntKind.i64.wrap (x6 + (1 : Int)))) else (bif y1.1 == (↑x1.length : Int) then (rc x1 x2 (x3.1, ()) x4 x5 (IntKind.i64.wrap (x6 + (1 : Int)))) else (ob (impll111_2 K rs K x1 x2 (x3.1, ()) (x4.getD x6.toNat ((0 : Int))) y1.1 [] x4 x5 x6 x1 ((↑x1.length : Int)) ((0 : Int))) fun y2 => (ob (implf126 K x2 y2.2.1) fun y3 => (bif y3.2 then (ob (implf83 K x1) fun y4 => (ob (implf86 K y4 y1.1 ((List.replicate 1 ((0 : Int))).set 0 (x4.getD x6.toNat ((0 : Int))))) fun y5 => (ob (rs y5 y3.1 (y2.1.1, ())) fun y6 => (rc x1 x2 (y6.1, ()) x4 x5 (IntKind.i64.wrap (x6 + (1 : Int))))))) else (rc x1 x2 (y2.1.1, ()) x4 x5 (IntKind.i64.wrap (x6 + (1 : Int))))))))))) else none) else some (((x3.1, ()), x6, ())))
noncomputable def impll111_0 (K : Nat) (rs : (List Int) → (List Int) → ((List (List Int)) × Unit) → Option (((List (List Int)) × Unit))) : Nat → (List Int) → (List Int) → ((List (List Int)) × Unit) → (List Int) → Int → Int → Option (((List (List Int)) × Unit) × Int × Unit)
  | 0, _, _, _, _, _, _ => none
  | k + 1, x1, x2, x3, x4, x5, x6 => implb111_0 K rs (impll111_0 K rs k) x1 x2 x3 x4 x5 x6
noncomputable def n111_0 (K : Nat) (rs : (List Int) → (List Int) → ((List (List Int)) × Unit) → Option (((List (List Int)) × Unit))) : Lent := ⟨[0, 1, 2, 37, 38, 39], i111_0, [40, 41, 42, 8, 44, 45, 46, 43, 47, 48, 9, 10, 49, 50, 51, 52, 53, 54, 55, 56, 57, 58, 59, 11, 60, 61, 62, 63, 64, 65, 13, 66, 67, 68, 69, 70, 71, 72, 73, 74, 75, 76, 78, 79, 80, 77, 81, 82, 14, 15, 83, 84, 85, 86, 87, 88, 89, 90, 91, 92, 93], [0], false, res111, fun x => impll111_0 K rs K x.1 x.2.1 x.2.2.1 x.2.2.2.1 x.2.2.2.2.1 x.2.2.2.2.2.1, [], none⟩
theorem q111_0 (K : Nat) (rs : (List Int) → (List Int) → ((List (List Int)) × Unit) → Option (((List (List Int)) × Unit))) (rc : (List Int) → (List Int) → ((List (List Int)) × Unit) → (List Int) → Int → Int → Option (((List (List Int)) × Unit) × Int × Unit)) (x1 : (List Int)) (x2 : (List Int)) (x3 : ((List (List Int)) × Unit)) (x4 : (List Int)) (x5 : Int) (x6 : Int) : evLoop (L111_1 K rs) 3 111 Try.f111.results.toList (loopOf 0 (codeOf Try.f111)) 0 [0, 1, 2, 37, 38, 39] [] i111_0 [0] false res111 (fun x => rc x.1 x.2.1 x.2.2.1 x.2.2.2.1 x.2.2.2.2.1 x.2.2.2.2.2.1) (x1, x2, x3, x4, x5, x6, ()) = implb111_0 K rs rc x1 x2 x3 x4 x5 x6 := by kernel_rfl
theorem lp111_0 : loopsIn (loopOf 0 (codeOf Try.f111)) 0 = [(2, loopOf 2 (codeOf Try.f111))] := by kernel_rfl
theorem n111_0_ok (K : Nat) (rs : (List Int) → (List Int) → ((List (List Int)) × Unit) → Option (((List (List Int)) × Unit))) (hrs : EntOk Try.prog 111 (e111r K rs)) : LentOk Try.prog Try.f111 (loopOf 0 (codeOf Try.f111)) (n111_0 K rs) := lentOk_k (slots := [0, 1, 2, 37, 38, 39]) (ali := []) (ins := i111_0) (writes := [40, 41, 42, 8, 44, 45, 46, 43, 47, 48, 9, 10, 49, 50, 51, 52, 53, 54, 55, 56, 57, 58, 59, 11, 60, 61, 62, 63, 64, 65, 13, 66, 67, 68, 69, 70, 71, 72, 73, 74, 75, 76, 78, 79, 80, 77, 81, 82, 14, 15, 83, 84, 85, 86, 87, 88, 89, 90, 91, 92, 93]) (exits := [0]) (rets := false) (rs := res111) (d := 3) (lib111_1 K rs hrs) lp111_0 ⟨one_lent (n111_2_ok K rs hrs), trivial⟩ (by kernel_rfl) (by kernel_rfl) (by kernel_rfl) (by kernel_rfl) (by kernel_rfl) (fun k x => impll111_0 K rs k x.1 x.2.1 x.2.2.1 x.2.2.2.1 x.2.2.2.2.1 x.2.2.2.2.2.1) (fun _ => rfl) (fun k x => q111_0 K rs (impll111_0 K rs k) x.1 x.2.1 x.2.2.1 x.2.2.2.1 x.2.2.2.2.1 x.2.2.2.2.2.1) K
noncomputable def L111_2 (K : Nat) (rs : (List Int) → (List Int) → ((List (List Int)) × Unit) → Option (((List (List Int)) × Unit))) : Lib := mkLib ti [(83, [e83 K]), (84, [e84 K]), (86, [e86 K]), (96, [e96 K]), (126, [e126 K]), (111, [e111r K rs])] [] 111 [(2, [n111_2 K rs]), (0, [n111_0 K rs])]
theorem lib111_2 (K : Nat) (rs : (List Int) → (List Int) → ((List (List Int)) × Unit) → Option (((List (List Int)) × Unit))) (hrs : EntOk Try.prog 111 (e111r K rs)) : LibOk Try.prog (L111_2 K rs) := libOk_mk (ents := [(83, [e83 K]), (84, [e84 K]), (86, [e86 K]), (96, [e96 K]), (126, [e126 K]), (111, [e111r K rs])]) (bodies := []) (loops := [(2, [n111_2 K rs]), (0, [n111_0 K rs])]) order tiOk ⟨one_ent (e83_ok K), one_ent (e84_ok K), one_ent (e86_ok K), one_ent (e96_ok K), one_ent (e126_ok K), one_ent hrs, trivial⟩ trivial Try.func111 rfl lp111 ⟨one_lent (n111_0_ok K rs hrs), one_lent (n111_2_ok K rs hrs), trivial⟩
noncomputable def implg111 (K : Nat) (rs : (List Int) → (List Int) → ((List (List Int)) × Unit) → Option (((List (List Int)) × Unit))) (x1 : (List Int)) (x2 : (List Int)) (x3 : ((List (List Int)) × Unit)) : Option (((List (List Int)) × Unit)) :=
  (bif (↑x2.length : Int) == (0 : Int) then (ob (implf96 K x1 x3.1) fun y1 => some ((y1, ()))) else (if (0 : Int) ≤ IntKind.i64.wrap ((↑x2.length : Int) - (1 : Int)) ∧ IntKind.i64.wrap ((↑x2.length : Int) - (1 : Int)) < (↑x2.length : Int) then (if (0 : Int) ≤ IntKind.i64.wrap ((↑x1.length : Int) - (1 : Int)) ∧ IntKind.i64.wrap ((↑x1.length : Int) - (1 : Int)) < (↑x1.length : Int) then (ob (impll111_0 K rs K x1 x2 (x3.1, ()) (((List.replicate 2 ((0 : Int))).set 0 (x2.getD (IntKind.i64.wrap ((↑x2.length : Int) - (1 : Int))).toNat ((0 : Int)))).set 1 (IntKind.i64.wrap (x1.getD (IntKind.i64.wrap ((↑x1.length : Int) - (1 : Int))).toNat ((0 : Int)) - x2.getD (IntKind.i64.wrap ((↑x2.length : Int) - (1 : Int))).toNat ((0 : Int))))) (Int.ofNat (((List.replicate 2 ((0 : Int))).set 0 (x2.getD (IntKind.i64.wrap ((↑x2.length : Int) - (1 : Int))).toNat ((0 : Int)))).set 1 (IntKind.i64.wrap (x1.getD (IntKind.i64.wrap ((↑x1.length : Int) - (1 : Int))).toNat ((0 : Int)) - x2.getD (IntKind.i64.wrap ((↑x2.length : Int) - (1 : Int))).toNat ((0 : Int))))).length) ((0 : Int))) fun y2 => some ((y2.1.1, ()))) else none) else none))
theorem q111 (K : Nat) (rs : (List Int) → (List Int) → ((List (List Int)) × Unit) → Option (((List (List Int)) × Unit))) (x1 : (List Int)) (x2 : (List Int)) (x3 : ((List (List Int)) × Unit)) : evFnK (α := ((List (List Int)) × Unit)) (L111_2 K rs) 3 111 Try.f111.results.toList (codeOf Try.f111) ins111 res111 (fun p => p.2.1) (x1, x2, x3, ()) = implg111 K rs x1 x2 x3 := by kernel_rfl
noncomputable def implr111 (K : Nat) : Nat → (List Int) → (List Int) → ((List (List Int)) × Unit) → Option (((List (List Int)) × Unit))
  | 0, _, _, _ => none
  | k + 1, x1, x2, x3 => implg111 K (implr111 K k) x1 x2 x3
noncomputable def implf111 (K : Nat) (x1 : (List Int)) (x2 : (List Int)) (x3 : ((List (List Int)) × Unit)) : Option (((List (List Int)) × Unit)) := implr111 K K x1 x2 x3
theorem e111_step (K : Nat) (rs : (List Int) → (List Int) → ((List (List Int)) × Unit) → Option (((List (List Int)) × Unit))) (hrs : EntOk Try.prog 111 (e111r K rs)) : EntOk Try.prog 111 (e111r K (implg111 K rs)) := entOk_k (ins := ins111) (rs := res111) (α := ((List (List Int)) × Unit)) (lib111_2 K rs hrs) (d := 3) Try.func111 rfl (by kernel_rfl) (by kernel_rfl) (by kernel_rfl) (fun x => implg111 K rs x.1 x.2.1 x.2.2.1) (fun p => p.2.1) (fun y => ((), (y, ()))) (fun _ => rfl) (fun x => q111 K rs x.1 x.2.1 x.2.2.1)
theorem e111_rec (K : Nat) : ∀ k, EntOk Try.prog 111 (e111r K (implr111 K k))
  | 0 => ent_none Try.func111 rfl (by kernel_rfl) (fun _ => rfl)
  | k + 1 => e111_step K (implr111 K k) (e111_rec K k)
noncomputable def e111 (K : Nat) : Ent := ⟨ins111, res111, ((List (List Int)) × Unit), fun x => implf111 K x.1 x.2.1 x.2.2.1, fun _ => (fun y => ((), (y, ()))), false⟩
theorem e111_ok (K : Nat) : EntOk Try.prog 111 (e111 K) := e111_rec K K

/-! diaphone/echo.begin -/
abbrev ins95 : Fs := [(.dat (.sl (.int .i64)), false), (.fn 96 (.cons (.box (.own (.sl (.int .i64)))) .un), true)]
abbrev res95 : Sh := .nix
theorem lp95 : loopsIn (codeOf Try.f95) 0 = [] := by kernel_rfl
noncomputable def L95_0 (K : Nat) : Lib := mkLib ti [(96, [e96 K]), (111, [e111 K])] [] 95 []
theorem lib95_0 (K : Nat) : LibOk Try.prog (L95_0 K) := libOk_mk (ents := [(96, [e96 K]), (111, [e111 K])]) (bodies := []) (loops := []) order tiOk ⟨one_ent (e96_ok K), one_ent (e111_ok K), trivial⟩ trivial Try.func95 rfl lp95 trivial
noncomputable def implf95 (K : Nat) (x1 : (List Int)) (x2 : ((List (List Int)) × Unit)) : Option (((List (List Int)) × Unit)) :=
  (bif (↑x1.length : Int) == (0 : Int) then (ob (implf96 K ((List.replicate 1 ((0 : Int))).set 0 ((0 : Int))) x2.1) fun y1 => some ((y1, ()))) else (if (0 : Int) ≤ IntKind.i64.wrap ((↑x1.length : Int) - (1 : Int)) ∧ IntKind.i64.wrap ((↑x1.length : Int) - (1 : Int)) < (↑x1.length : Int) then (if (0 : Int) ≤ (0 : Int) ∧ (0 : Int) ≤ IntKind.i64.wrap ((↑x1.length : Int) - (1 : Int)) ∧ IntKind.i64.wrap ((↑x1.length : Int) - (1 : Int)) ≤ (↑x1.length : Int) then (ob (implf111 K (((List.replicate 2 ((0 : Int))).set 0 ((0 : Int))).set 1 (x1.getD (IntKind.i64.wrap ((↑x1.length : Int) - (1 : Int))).toNat ((0 : Int)))) (List.take (IntKind.i64.wrap ((↑x1.length : Int) - (1 : Int))).toNat x1) (x2.1, ())) fun y2 => some ((y2.1, ()))) else none) else none))
theorem q95 (K : Nat) (x1 : (List Int)) (x2 : ((List (List Int)) × Unit)) : evFnK (α := ((List (List Int)) × Unit)) (L95_0 K) 3 95 Try.f95.results.toList (codeOf Try.f95) ins95 res95 (fun p => p.2.1) (x1, x2, ()) = implf95 K x1 x2 := by kernel_rfl
noncomputable def e95 (K : Nat) : Ent := ⟨ins95, res95, ((List (List Int)) × Unit), fun x => implf95 K x.1 x.2.1, fun _ => (fun y => ((), (y, ()))), false⟩
theorem e95_ok (K : Nat) : EntOk Try.prog 95 (e95 K) := entOk_k (ins := ins95) (rs := res95) (α := ((List (List Int)) × Unit)) (lib95_0 K) (d := 3) Try.func95 rfl (by kernel_rfl) (by kernel_rfl) (by kernel_rfl) (fun x => implf95 K x.1 x.2.1) (fun p => p.2.1) (fun y => ((), (y, ()))) (fun _ => rfl) (fun x => q95 K x.1 x.2.1)

/-! slices.SortFunc[[][]int,[]int] -/
abbrev ins97 : Fs := [(.own (.sl (.int .i64)), true), (.fn 94 .un, false)]
abbrev res97 : Sh := .nix
noncomputable def implf97 (K : Nat) (x1 : List (List Int)) : Option (List (List Int)) := if x1.length ≤ 1000 ∧ (∀ x ∈ x1, x.length ≤ 1000) then some (isort leL x1) else none
noncomputable def e97 (K : Nat) : Ent := ⟨ins97, res97, List (List Int), fun x => implf97 K x.1, fun _ => (fun y => ((), (y, ()))), false⟩
theorem v110 (K : Nat) (a b : Int) : implf110 K a b = some (if a < b then -1 else if b < a then 1 else 0) := by
  unfold implf110
  simp only [ibne, cdec, decide_true, Bool.not_true, cond_false]
  by_cases h1 : a < b
  · simp [h1]
  · by_cases h2 : b < a
    · simp [h1, h2]
    · have h3 : ¬ a > b := h2
      simp [h1, h2, h3]
theorem w94_loop (K : Nat) (x y : List Int) (hx : x.length ≤ 1000) : ∀ (m k i : Nat), i + m = x.length → m < k → i ≤ y.length →
    (ob (impll94_0 K k x y x (x.length : Int) (i : Int)) fun y1 => (match y1 with | .inl y2 => (bif decide ((↑x.length : Int) < (↑y.length : Int)) then some ((-1 : Int)) else some (Int.ofNat 0)) | .inr y2 => some (y2))) = some (cmpL (x.drop i) (y.drop i))
  | m, 0, i, _, h, _ => by omega
  | 0, k + 1, i, h1, h2, h3 => by
    have e : ¬ (i : Int) < (x.length : Int) := by omega
    rw [impll94_0, implb94_0, cdec, if_neg e, obS]
    simp only []
    rw [List.drop_eq_nil_of_le (show x.length ≤ i by omega), cdec]
    by_cases g : x.length < y.length
    · rw [if_pos (by omega), drop_getD 0 (show i < y.length by omega)]; rfl
    · rw [if_neg (by omega), List.drop_eq_nil_of_le (show y.length ≤ i by omega)]; rfl
  | m + 1, k + 1, i, h1, h2, h3 => by
    have e : (i : Int) < (x.length : Int) := by omega
    rw [impll94_0, implb94_0, cdec, if_pos e, if_pos ⟨by omega, e⟩, cdec]
    rw [drop_getD 0 (show i < x.length by omega)]
    by_cases g : y.length ≤ i
    · rw [if_pos (by omega), obS, List.drop_eq_nil_of_le g]; rfl
    · rw [if_neg (by omega), if_pos ⟨by omega, by omega⟩, v110, obS, drop_getD 0 (show i < y.length by omega)]
      simp only [Int.toNat_natCast, ibne, cnot, cdec]
      rw [cmpL]
      have ih := w94_loop K x y hx m k (i + 1) (by omega) (by omega) (by omega)
      simp only [cdec] at ih
      rw [wrapS (by omega)]
      by_cases l1 : x.getD i 0 < y.getD i 0
      · rw [if_pos l1, if_pos l1, if_neg (by decide)]; rfl
      · rw [if_neg l1, if_neg l1]
        by_cases l2 : y.getD i 0 < x.getD i 0
        · rw [if_pos l2, if_pos l2, if_neg (by decide)]; rfl
        · rw [if_neg l2, if_neg l2, if_pos rfl]
          exact ih
theorem w94 (x y : List Int) (hx : x.length ≤ 1000) : implf94 5000 x y = some (cmpL x y) := by
  have := w94_loop 5000 x y hx x.length 5000 0 (by omega) (by omega) (Nat.zero_le _)
  rw [List.drop_zero, List.drop_zero] at this
  exact this
theorem w69_loop (K : Nat) (x y : List Int) (hx : x.length ≤ 1000) (hxy : x.length = y.length) : ∀ (m k i : Nat), i + m = x.length → m < k →
    (ob (impll69_0 K k x y (x.length : Int) (i : Int)) fun y1 => (match y1 with | .inl y2 => some (true) | .inr y2 => some (y2))) = some (decide (x.drop i = y.drop i))
  | m, 0, i, _, h => by omega
  | 0, k + 1, i, h1, h2 => by
    have e : ¬ (i : Int) < (x.length : Int) := by omega
    rw [impll69_0, implb69_0, cdec, if_neg e, obS]
    rw [List.drop_eq_nil_of_le (show x.length ≤ i by omega), List.drop_eq_nil_of_le (show y.length ≤ i by omega)]
    rfl
  | m + 1, k + 1, i, h1, h2 => by
    have e : (i : Int) < (x.length : Int) := by omega
    rw [impll69_0, implb69_0, cdec, if_pos e, if_pos ⟨by omega, e⟩, if_pos ⟨by omega, by omega⟩, ibne, cnot, cdec]
    rw [drop_getD 0 (show i < x.length by omega), drop_getD 0 (show i < y.length by omega), Int.toNat_natCast]
    by_cases g : x.getD i 0 = y.getD i 0
    · rw [if_pos g, wrapS (by omega)]
      have ih := w69_loop K x y hx hxy m k (i + 1) (by omega) (by omega)
      rw [ih]
      congr 1
      rw [Bool.eq_iff_iff]
      simp only [decide_eq_true_eq, List.cons.injEq, g, true_and]
    · rw [if_neg g, obS]
      simp only []
      congr 1
      exact (decide_eq_false (fun h => g (List.cons.inj h).1)).symm
theorem w69 (x y : List Int) (hx : x.length ≤ 1000) : implf69 5000 x y = some (decide (x = y)) := by
  unfold implf69
  rw [ibne, cnot, cdec]
  by_cases h : (x.length : Int) = (y.length : Int)
  · rw [if_pos h]
    have := w69_loop 5000 x y hx (by omega) x.length 5000 0 (by omega) (by omega)
    rw [List.drop_zero, List.drop_zero] at this
    exact this
  · rw [if_neg h]
    congr 1
    exact (decide_eq_false (fun e => h (by rw [e]))).symm
theorem e97_ok (K : Nat) : EntOk Try.prog 97 (e97 K) := sortL_ent sortF ⟨_, _, Try.func97, rfl, by kernel_rfl⟩ (e94_ok 5000) (fun x y hx _ => w94 x y hx) (enter_of Try.func94 rfl (by kernel_rfl))

/-! slices.CompactFunc[[][]int,[]int] -/
abbrev ins98 : Fs := [(.own (.sl (.int .i64)), false), (.fn 69 .un, false)]
abbrev res98 : Sh := .own (.sl (.int .i64))
noncomputable def implf98 (K : Nat) (x1 : List (List Int)) : Option (List (List Int)) := if x1.length ≤ 1000 ∧ (∀ x ∈ x1, x.length ≤ 1000) then some (compactL x1) else none
noncomputable def e98 (K : Nat) : Ent := ⟨ins98, res98, List (List Int), fun x => implf98 K x.1, fun _ => (fun y => (y, ())), true⟩
theorem e98_ok (K : Nat) : EntOk Try.prog 98 (e98 K) := compactL_ent (e69_ok 5000) (fun x y hx _ => w69 x y hx)

end Go.Proofs.Ytdgibokmaannjaa
