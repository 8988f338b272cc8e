/- What the functions compute: printed by a program of this claim's author. -/
import Derived.Test.YtbpjodikknbcoaaGreatDoorR5
set_option maxRecDepth 100000
set_option linter.unusedVariables false
set_option linter.unusedSimpArgs false
namespace Go.Proofs.YtbpjodikknbcoaaGreatDoor
open Go Go.Pv
abbrev BOX : Type := ((List (List Int)) × (List Int))
abbrev KIT : Type := ((List Int) × ((List Int) × ((List (List Int)) × (List Int))))
abbrev STN : Type := ((Int × Int) × ((List Int) × ((List Int) × (((List (List Int)) × (List Int)) × (Int × (Bool × (Int × (Int × (Int × (Int × (Int × (Int × (Int × (Int × (Int × (Int × (List ByteArray)))))))))))))))))
abbrev REF : Type := ((List Int) × (((List (List Int)) × (List Int)) × (Int × (Int × (Int × (Int × (Int × (Int × (Int × (Int × (Int × (Int × (Bool × (List ByteArray))))))))))))))
/-! strings.Cut -/
abbrev ins64 : Fs := [(.dat .str, false), (.dat .str, false)]
abbrev res64 : Sh := .cons (.dat .str) (.cons (.dat .str) (.cons (.dat .bool) .un))
noncomputable def implf64 (K : Nat) (x1 : ByteArray) (x2 : ByteArray) : Option (ByteArray × ByteArray × Bool) := if x1.size < 4294967281 ∨ (x2.size = 1 ∧ x1.size ≤ 9223372036854775807) then some (⟨(Lib.cut x1.data.toList x2.data.toList).1.toArray⟩, ⟨(Lib.cut x1.data.toList x2.data.toList).2.1.toArray⟩, (Lib.cut x1.data.toList x2.data.toList).2.2) else none
noncomputable def e64 (K : Nat) : Ent := ⟨ins64, res64, ByteArray × ByteArray × Bool, fun x => implf64 K x.1 x.2.1, fun _ => (fun y => ((y.1, y.2.1, y.2.2, ()), ())), false⟩
theorem e64_ok (K : Nat) : EntOk Tryz.prog 64 (e64 K) := cut_entU

/-! strings.Contains -/
abbrev ins96 : Fs := [(.dat .str, false), (.dat .str, false)]
abbrev res96 : Sh := .dat .bool
noncomputable def implf96 (K : Nat) (x1 : ByteArray) (x2 : ByteArray) : Option (Bool) := if x1.size < 4294967281 then (match x2.data.toList with | [c] => some (decide (0 ≤ Lib.indexByte x1.data.toList c)) | _ => none) else none
noncomputable def e96 (K : Nat) : Ent := ⟨ins96, res96, Bool, fun x => implf96 K x.1 x.2.1, fun _ => (fun y => (y, ())), false⟩
theorem e96_ok (K : Nat) : EntOk Tryz.prog 96 (e96 K) := contains_ent

/-! diaphone/station.isText -/
abbrev ins65 : Fs := [(.dat (.str), false)]
abbrev res65 : Sh := .dat (.bool)
theorem lp65 : loopsIn (codeOf Tryz.f65) 0 = [] := by kernel_rfl
noncomputable def L65_0 (K : Nat) : Lib := mkLib ti [(96, [e96 K])] [] 65 []
theorem lib65_0 (K : Nat) : LibOk Tryz.prog (L65_0 K) := libOk_mk (ents := [(96, [e96 K])]) (bodies := []) (loops := []) order tiOk ⟨one_ent (e96_ok K), trivial⟩ trivial Tryz.func65 rfl lp65 trivial
noncomputable def implf65 (K : Nat) (x1 : ByteArray) : Option (Bool) :=
  (bif decide ((↑x1.size : Int) ≥ (1 : Int)) then (bif decide ((↑x1.size : Int) ≤ (40 : Int)) then (ob (implf96 K x1 (ByteArray.mk #[(10 : UInt8)])) fun y1 => some (match y1 with
| true => false
| false => true)) else some (false)) else some (false))
theorem q65 (K : Nat) (x1 : ByteArray) : evFnK (α := Bool) (L65_0 K) 3 65 Tryz.f65.results.toList (codeOf Tryz.f65) ins65 res65 (fun p => p.1) (x1, ()) = implf65 K x1 := by kernel_rfl
noncomputable def e65 (K : Nat) : Ent := ⟨ins65, res65, Bool, fun x => implf65 K x.1, fun _ => (fun y => (y, (()))), false⟩
theorem e65_ok (K : Nat) : EntOk Tryz.prog 65 (e65 K) := entOk_k (ins := ins65) (rs := res65) (α := Bool) (lib65_0 K) (d := 3) Tryz.func65 rfl (by kernel_rfl) (by kernel_rfl) (by kernel_rfl) (fun x => implf65 K x.1) (fun p => p.1) (fun y => (y, (()))) (fun _ => rfl) (fun x => q65 K x.1)

/-! diaphone/station.Sum -/
abbrev ins46 : Fs := [(.dat (.int .i64), false), (.dat (.str), false)]
abbrev res46 : Sh := .dat (.int .i64)
theorem lp46 : loopsIn (codeOf Tryz.f46) 0 = [(0, loopOf 0 (codeOf Tryz.f46))] := by kernel_rfl
noncomputable def L46_0 (K : Nat) : Lib := mkLib ti [] [] 46 []
theorem lib46_0 (K : Nat) : LibOk Tryz.prog (L46_0 K) := libOk_mk (ents := []) (bodies := []) (loops := []) order tiOk trivial trivial Tryz.func46 rfl lp46 ⟨no_lent, trivial⟩
abbrev i46_0 : Fs := [(.dat (.str), false), (.dat (.int Go.IntKind.i64), true), (.dat (.int Go.IntKind.i64), false), (.dat (.int Go.IntKind.i64), true)]
noncomputable def implb46_0 (K : Nat) (rc : ByteArray → Int → Int → Int → Option (Int × Int × Unit)) (x1 : ByteArray) (x2 : Int) (x3 : Int) (x4 : Int) : Option (Int × Int × Unit) :=
  (bif decide (x4 < x3) then (if (0 : Int) ≤ x4 ∧ x4 < (↑x1.size : Int) then (rc x1 ((IntKind.i64.wrap (IntKind.i64.wrap (IntKind.i64.wrap (x2 * (257 : Int)) + IntKind.i64.wrap (bt x1 x4)) + (1 : Int))).tmod (1000003 : Int)) x3 (IntKind.i64.wrap (x4 + (1 : Int)))) else none) else some ((x2, x4, ())))
noncomputable def impll46_0 (K : Nat) : Nat → ByteArray → Int → Int → Int → Option (Int × Int × Unit)
  | 0, _, _, _, _ => none
  | k + 1, x1, x2, x3, x4 => implb46_0 K (impll46_0 K k) x1 x2 x3 x4
noncomputable def n46_0 (K : Nat) : Lent := ⟨[1, 5, 14, 15], i46_0, [16, 17, 6, 18, 19, 20, 21, 22, 23, 24, 25, 26, 27], [0], false, res46, fun x => impll46_0 K K x.1 x.2.1 x.2.2.1 x.2.2.2.1, [], none⟩
theorem q46_0 (K : Nat) (rc : ByteArray → Int → Int → Int → Option (Int × Int × Unit)) (x1 : ByteArray) (x2 : Int) (x3 : Int) (x4 : Int) : evLoop (L46_0 K) 3 46 Tryz.f46.results.toList (loopOf 0 (codeOf Tryz.f46)) 0 [1, 5, 14, 15] [] i46_0 [0] false res46 (fun x => rc x.1 x.2.1 x.2.2.1 x.2.2.2.1) (x1, x2, x3, x4, ()) = implb46_0 K rc x1 x2 x3 x4 := by kernel_rfl
theorem lp46_0 : loopsIn (loopOf 0 (codeOf Tryz.f46)) 0 = [] := by kernel_rfl
theorem n46_0_ok (K : Nat) : LentOk Tryz.prog Tryz.f46 (loopOf 0 (codeOf Tryz.f46)) (n46_0 K) := lentOk_k (slots := [1, 5, 14, 15]) (ali := []) (ins := i46_0) (writes := [16, 17, 6, 18, 19, 20, 21, 22, 23, 24, 25, 26, 27]) (exits := [0]) (rets := false) (rs := res46) (d := 3) (lib46_0 K) lp46_0 trivial (by kernel_rfl) (by kernel_rfl) (by kernel_rfl) (by kernel_rfl) (by kernel_rfl) (fun k x => impll46_0 K k x.1 x.2.1 x.2.2.1 x.2.2.2.1) (fun _ => rfl) (fun k x => q46_0 K (impll46_0 K k) x.1 x.2.1 x.2.2.1 x.2.2.2.1) K
noncomputable def L46_1 (K : Nat) : Lib := mkLib ti [] [] 46 [(0, [n46_0 K])]
theorem lib46_1 (K : Nat) : LibOk Tryz.prog (L46_1 K) := libOk_mk (ents := []) (bodies := []) (loops := [(0, [n46_0 K])]) order tiOk trivial trivial Tryz.func46 rfl lp46 ⟨one_lent (n46_0_ok K), trivial⟩
noncomputable def implf46 (K : Nat) (x1 : Int) (x2 : ByteArray) : Option (Int) :=
  (bif decide (x1.tmod (1000003 : Int) < (0 : Int)) then (ob (impll46_0 K K x2 (IntKind.i64.wrap (x1.tmod (1000003 : Int) + (1000003 : Int))) ((↑x2.size : Int)) ((0 : Int))) fun y1 => some (y1.1)) else (ob (impll46_0 K K x2 (x1.tmod (1000003 : Int)) ((↑x2.size : Int)) ((0 : Int))) fun y2 => some (y2.1)))
theorem q46 (K : Nat) (x1 : Int) (x2 : ByteArray) : evFnK (α := Int) (L46_1 K) 3 46 Tryz.f46.results.toList (codeOf Tryz.f46) ins46 res46 (fun p => p.1) (x1, x2, ()) = implf46 K x1 x2 := by kernel_rfl
noncomputable def e46 (K : Nat) : Ent := ⟨ins46, res46, Int, fun x => implf46 K x.1 x.2.1, fun _ => (fun y => (y, (()))), false⟩
theorem e46_ok (K : Nat) : EntOk Tryz.prog 46 (e46 K) := entOk_k (ins := ins46) (rs := res46) (α := Int) (lib46_1 K) (d := 3) Tryz.func46 rfl (by kernel_rfl) (by kernel_rfl) (by kernel_rfl) (fun x => implf46 K x.1 x.2.1) (fun p => p.1) (fun y => (y, (()))) (fun _ => rfl) (fun x => q46 K x.1 x.2.1)

/-! strconv.Itoa -/
abbrev ins85 : Fs := [(.dat (.int .i64), false)]
abbrev res85 : Sh := .dat .str
noncomputable def implf85 (K : Nat) (x1 : Int) : Option (ByteArray) := if -9223372036854775808 ≤ x1 ∧ x1 ≤ 9223372036854775807 then some ⟨(Lib.itoa x1).toArray⟩ else none
noncomputable def e85 (K : Nat) : Ent := ⟨ins85, res85, ByteArray, fun x => implf85 K x.1, fun _ => (fun y => (y, ())), false⟩
theorem e85_ok (K : Nat) : EntOk Tryz.prog 85 (e85 K) := itoa_ent

/-! diaphone/station.line -/
abbrev ins66 : Fs := [(.dat (.int .i64), false), (.dat (.str), false)]
abbrev res66 : Sh := .cons (.dat (.str)) (.cons (.dat (.int .i64)) (.un))
theorem lp66 : loopsIn (codeOf Tryz.f66) 0 = [] := by kernel_rfl
noncomputable def L66_0 (K : Nat) : Lib := mkLib ti [(46, [e46 K]), (85, [e85 K])] [] 66 []
theorem lib66_0 (K : Nat) : LibOk Tryz.prog (L66_0 K) := libOk_mk (ents := [(46, [e46 K]), (85, [e85 K])]) (bodies := []) (loops := []) order tiOk ⟨one_ent (e46_ok K), one_ent (e85_ok K), trivial⟩ trivial Tryz.func66 rfl lp66 trivial
noncomputable def implf66 (K : Nat) (x1 : Int) (x2 : ByteArray) : Option (ByteArray × Int) :=
  (ob (implf46 K x1 x2) fun y1 => (ob (implf85 K y1) fun y2 => (if y2.size + (ByteArray.mk #[(32 : UInt8)]).size ≤ 140737488355328 then (if (y2 ++ ByteArray.mk #[(32 : UInt8)]).size + x2.size ≤ 140737488355328 then (if (y2 ++ ByteArray.mk #[(32 : UInt8)] ++ x2).size + (ByteArray.mk #[(10 : UInt8)]).size ≤ 140737488355328 then some ((y2 ++ ByteArray.mk #[(32 : UInt8)] ++ x2 ++ ByteArray.mk #[(10 : UInt8)], y1)) else none) else none) else none)))
theorem q66 (K : Nat) (x1 : Int) (x2 : ByteArray) : evFnK (α := ByteArray × Int) (L66_0 K) 3 66 Tryz.f66.results.toList (codeOf Tryz.f66) ins66 res66 (fun p => (p.1.1, p.1.2.1)) (x1, x2, ()) = implf66 K x1 x2 := by kernel_rfl
noncomputable def e66 (K : Nat) : Ent := ⟨ins66, res66, ByteArray × Int, fun x => implf66 K x.1 x.2.1, fun _ => (fun y => ((y.1, y.2, ()), (()))), false⟩
theorem e66_ok (K : Nat) : EntOk Tryz.prog 66 (e66 K) := entOk_k (ins := ins66) (rs := res66) (α := ByteArray × Int) (lib66_0 K) (d := 3) Tryz.func66 rfl (by kernel_rfl) (by kernel_rfl) (by kernel_rfl) (fun x => implf66 K x.1 x.2.1) (fun p => (p.1.1, p.1.2.1)) (fun y => ((y.1, y.2, ()), (()))) (fun _ => rfl) (fun x => q66 K x.1 x.2.1)

/-! diaphone/station.Read -/
abbrev ins19 : Fs := [(.dat (.str), false)]
abbrev res19 : Sh := .cons (.dat (.sl (.str))) (.cons (.dat (.str)) (.un))
theorem lp19 : loopsIn (codeOf Tryz.f19) 0 = [(0, loopOf 0 (codeOf Tryz.f19))] := by kernel_rfl
noncomputable def L19_0 (K : Nat) : Lib := mkLib ti [(64, [e64 K]), (65, [e65 K]), (66, [e66 K])] [] 19 []
theorem lib19_0 (K : Nat) : LibOk Tryz.prog (L19_0 K) := libOk_mk (ents := [(64, [e64 K]), (65, [e65 K]), (66, [e66 K])]) (bodies := []) (loops := []) order tiOk ⟨one_ent (e64_ok K), one_ent (e65_ok K), one_ent (e66_ok K), trivial⟩ trivial Tryz.func19 rfl lp19 ⟨no_lent, trivial⟩
abbrev i19_0 : Fs := [(.dat (.str), true), (.own (.str), true), (.dat (.int Go.IntKind.i64), true)]
noncomputable def implb19_0 (K : Nat) (rc : ByteArray → (List ByteArray) → Int → Option (ByteArray × (List ByteArray) × Int × Unit)) (x1 : ByteArray) (x2 : (List ByteArray)) (x3 : Int) : Option (ByteArray × (List ByteArray) × Int × Unit) :=
  (bif decide ((↑x2.length : Int) < (100 : Int)) then (ob (implf64 K x1 (ByteArray.mk #[(10 : UInt8)])) fun y1 => (ob (implf64 K y1.1 (ByteArray.mk #[(32 : UInt8)])) fun y2 => (bif !y1.2.2 then some ((x1, x2, x3, ())) else (bif !y2.2.2 then some ((x1, x2, x3, ())) else (ob (implf65 K y2.2.1) fun y3 => (bif !y3 then some ((x1, x2, x3, ())) else (ob (implf66 K x3 y2.2.1) fun y4 => (if y1.1.size + (ByteArray.mk #[(10 : UInt8)]).size ≤ 140737488355328 then (bif !y4.1.toList == (y1.1 ++ ByteArray.mk #[(10 : UInt8)]).toList then some ((x1, x2, x3, ())) else (if (x2.length + ((List.replicate 1 ByteArray.empty).set 0 y2.2.1).length) * 16 ≤ 140737488355328 then (if (0 : Int) ≤ (↑y4.1.size : Int) ∧ (↑y4.1.size : Int) ≤ (↑x1.size : Int) ∧ (↑x1.size : Int) ≤ (↑x1.size : Int) then (rc (x1.extract (↑y4.1.size : Int).toNat (↑x1.size : Int).toNat) (x2 ++ (List.replicate 1 ByteArray.empty).set 0 y2.2.1) y4.2) else none) else none)) else none)))))))) else some ((x1, x2, x3, ())))
noncomputable def impll19_0 (K : Nat) : Nat → ByteArray → (List ByteArray) → Int → Option (ByteArray × (List ByteArray) × Int × Unit)
  | 0, _, _, _ => none
  | k + 1, x1, x2, x3 => implb19_0 K (impll19_0 K k) x1 x2 x3
noncomputable def n19_0 (K : Nat) : Lent := ⟨[0, 4, 5], i19_0, [14, 15, 16, 18, 19, 17, 20, 21, 22, 6, 7, 8, 24, 25, 23, 26, 27, 28, 9, 10, 11, 29, 30, 31, 32, 33, 34, 35, 36, 37, 38, 39, 41, 42, 43, 40, 44, 45, 12, 13, 46, 47, 48, 49, 50, 51, 52, 53, 54, 55, 56, 57, 58], [0], false, res19, fun x => impll19_0 K K x.1 x.2.1 x.2.2.1, [], none⟩
theorem q19_0 (K : Nat) (rc : ByteArray → (List ByteArray) → Int → Option (ByteArray × (List ByteArray) × Int × Unit)) (x1 : ByteArray) (x2 : (List ByteArray)) (x3 : Int) : evLoop (L19_0 K) 3 19 Tryz.f19.results.toList (loopOf 0 (codeOf Tryz.f19)) 0 [0, 4, 5] [] i19_0 [0] false res19 (fun x => rc x.1 x.2.1 x.2.2.1) (x1, x2, x3, ()) = implb19_0 K rc x1 x2 x3 := by kernel_rfl
theorem lp19_0 : loopsIn (loopOf 0 (codeOf Tryz.f19)) 0 = [] := by kernel_rfl
theorem n19_0_ok (K : Nat) : LentOk Tryz.prog Tryz.f19 (loopOf 0 (codeOf Tryz.f19)) (n19_0 K) := lentOk_k (slots := [0, 4, 5]) (ali := []) (ins := i19_0) (writes := [14, 15, 16, 18, 19, 17, 20, 21, 22, 6, 7, 8, 24, 25, 23, 26, 27, 28, 9, 10, 11, 29, 30, 31, 32, 33, 34, 35, 36, 37, 38, 39, 41, 42, 43, 40, 44, 45, 12, 13, 46, 47, 48, 49, 50, 51, 52, 53, 54, 55, 56, 57, 58]) (exits := [0]) (rets := false) (rs := res19) (d := 3) (lib19_0 K) lp19_0 trivial (by kernel_rfl) (by kernel_rfl) (by kernel_rfl) (by kernel_rfl) (by kernel_rfl) (fun k x => impll19_0 K k x.1 x.2.1 x.2.2.1) (fun _ => rfl) (fun k x => q19_0 K (impll19_0 K k) x.1 x.2.1 x.2.2.1) K
noncomputable def L19_1 (K : Nat) : Lib := mkLib ti [(64, [e64 K]), (65, [e65 K]), (66, [e66 K])] [] 19 [(0, [n19_0 K])]
theorem lib19_1 (K : Nat) : LibOk Tryz.prog (L19_1 K) := libOk_mk (ents := [(64, [e64 K]), (65, [e65 K]), (66, [e66 K])]) (bodies := []) (loops := [(0, [n19_0 K])]) order tiOk ⟨one_ent (e64_ok K), one_ent (e65_ok K), one_ent (e66_ok K), trivial⟩ trivial Tryz.func19 rfl lp19 ⟨one_lent (n19_0_ok K), trivial⟩
noncomputable def implf19 (K : Nat) (x1 : ByteArray) : Option ((List ByteArray) × ByteArray) :=
  (ob (impll19_0 K K x1 [] ((0 : Int))) fun y1 => some ((y1.2.1, y1.1)))
theorem q19 (K : Nat) (x1 : ByteArray) : evFnK (α := (List ByteArray) × ByteArray) (L19_1 K) 3 19 Tryz.f19.results.toList (codeOf Tryz.f19) ins19 res19 (fun p => (p.1.1, p.1.2.1)) (x1, ()) = implf19 K x1 := by kernel_rfl
noncomputable def e19 (K : Nat) : Ent := ⟨ins19, res19, (List ByteArray) × ByteArray, fun x => implf19 K x.1, fun _ => (fun y => ((y.1, y.2, ()), (()))), false⟩
theorem e19_ok (K : Nat) : EntOk Tryz.prog 19 (e19 K) := entOk_k (ins := ins19) (rs := res19) (α := (List ByteArray) × ByteArray) (lib19_1 K) (d := 3) Tryz.func19 rfl (by kernel_rfl) (by kernel_rfl) (by kernel_rfl) (fun x => implf19 K x.1) (fun p => (p.1.1, p.1.2.1)) (fun y => ((y.1, y.2, ()), (()))) (fun _ => rfl) (fun x => q19 K x.1)

/-! strconv.Atoi -/
abbrev ins136 : Fs := [(.dat .str, false)]
abbrev res136 : Sh := .cons (.dat (.int .i64)) (.cons (.dat .err) .un)
noncomputable def implf136 (K : Nat) (x1 : ByteArray) : Option (Int × Int) := if x1.size ≤ 1000000 then some (atoiR x1.data.toList) else none
noncomputable def e136 (K : Nat) : Ent := ⟨ins136, res136, Int × Int, fun x => implf136 K x.1, fun _ => (fun y => ((y.1, y.2, ()), ())), false⟩
theorem e136_ok (K : Nat) : EntOk Tryz.prog 136 (e136 K) := atoi_ent

/-! diaphone/station.parse -/
abbrev ins102 : Fs := [(.dat (.str), false)]
abbrev res102 : Sh := .cons (.dat (.pr (.int .i64) (.int .i64))) (.cons (.dat (.bool)) (.un))
theorem lp102 : loopsIn (codeOf Tryz.f102) 0 = [] := by kernel_rfl
noncomputable def L102_0 (K : Nat) : Lib := mkLib ti [(64, [e64 K]), (85, [e85 K]), (136, [e136 K])] [(135, Tryz.f135)] 102 []
theorem lib102_0 (K : Nat) : LibOk Tryz.prog (L102_0 K) := libOk_mk (ents := [(64, [e64 K]), (85, [e85 K]), (136, [e136 K])]) (bodies := [(135, Tryz.f135)]) (loops := []) order tiOk ⟨one_ent (e64_ok K), one_ent (e85_ok K), one_ent (e136_ok K), trivial⟩ ⟨bod135, trivial⟩ Tryz.func102 rfl lp102 trivial
noncomputable def implf102 (K : Nat) (x1 : ByteArray) : Option ((Int × Int) × Bool) :=
  (ob (implf64 K x1 (ByteArray.mk #[(32 : UInt8)])) fun y1 => (bif !(mget Ty.str ((Ty.int IntKind.i64).pr Ty.bool) [(ByteArray.mk #[(102 : UInt8), (111 : UInt8), (103 : UInt8)], (0 : Int), false), (ByteArray.mk #[(99 : UInt8), (108 : UInt8), (101 : UInt8), (97 : UInt8), (114 : UInt8)], (1 : Int), false), (ByteArray.mk #[(112 : UInt8), (117 : UInt8), (109 : UInt8), (112 : UInt8)], (2 : Int), true), (ByteArray.mk #[(119 : UInt8), (97 : UInt8), (105 : UInt8), (116 : UInt8)], (3 : Int), true), (ByteArray.mk #[(115 : UInt8), (116 : UInt8), (111 : UInt8), (99 : UInt8), (107 : UInt8)], (4 : Int), true), (ByteArray.mk #[(102 : UInt8), (105 : UInt8), (114 : UInt8), (101 : UInt8)], (5 : Int), true), (ByteArray.mk #[(115 : UInt8), (101 : UInt8), (116 : UInt8)], (6 : Int), true)] y1.1).isSome then some ((((0 : Int), (0 : Int)), false)) else (bif decide ((↑x1.size : Int) > (40 : Int)) then some ((((0 : Int), (0 : Int)), false)) else (bif !y1.2.2 == ((mget Ty.str ((Ty.int IntKind.i64).pr Ty.bool) [(ByteArray.mk #[(102 : UInt8), (111 : UInt8), (103 : UInt8)], (0 : Int), false), (ByteArray.mk #[(99 : UInt8), (108 : UInt8), (101 : UInt8), (97 : UInt8), (114 : UInt8)], (1 : Int), false), (ByteArray.mk #[(112 : UInt8), (117 : UInt8), (109 : UInt8), (112 : UInt8)], (2 : Int), true), (ByteArray.mk #[(119 : UInt8), (97 : UInt8), (105 : UInt8), (116 : UInt8)], (3 : Int), true), (ByteArray.mk #[(115 : UInt8), (116 : UInt8), (111 : UInt8), (99 : UInt8), (107 : UInt8)], (4 : Int), true), (ByteArray.mk #[(102 : UInt8), (105 : UInt8), (114 : UInt8), (101 : UInt8)], (5 : Int), true), (ByteArray.mk #[(115 : UInt8), (101 : UInt8), (116 : UInt8)], (6 : Int), true)] y1.1).getD ((0 : Int), false)).2 then some ((((0 : Int), (0 : Int)), false)) else (bif !y1.2.2 then some (((((mget Ty.str ((Ty.int IntKind.i64).pr Ty.bool) [(ByteArray.mk #[(102 : UInt8), (111 : UInt8), (103 : UInt8)], (0 : Int), false), (ByteArray.mk #[(99 : UInt8), (108 : UInt8), (101 : UInt8), (97 : UInt8), (114 : UInt8)], (1 : Int), false), (ByteArray.mk #[(112 : UInt8), (117 : UInt8), (109 : UInt8), (112 : UInt8)], (2 : Int), true), (ByteArray.mk #[(119 : UInt8), (97 : UInt8), (105 : UInt8), (116 : UInt8)], (3 : Int), true), (ByteArray.mk #[(115 : UInt8), (116 : UInt8), (111 : UInt8), (99 : UInt8), (107 : UInt8)], (4 : Int), true), (ByteArray.mk #[(102 : UInt8), (105 : UInt8), (114 : UInt8), (101 : UInt8)], (5 : Int), true), (ByteArray.mk #[(115 : UInt8), (101 : UInt8), (116 : UInt8)], (6 : Int), true)] y1.1).getD ((0 : Int), false)).1, (0 : Int)), true)) else (ob (implf136 K y1.2.1) fun y2 => (bif !decide (y2.2 = (0 : Int)) then some ((((0 : Int), (0 : Int)), false)) else (ob (implf85 K y2.1) fun y3 => (bif !y3.toList == y1.2.1.toList then some ((((0 : Int), (0 : Int)), false)) else (bif decide (y2.1 < (0 : Int)) then some ((((0 : Int), (0 : Int)), false)) else (bif decide (y2.1 > (9999 : Int)) then some ((((0 : Int), (0 : Int)), false)) else some (((((mget Ty.str ((Ty.int IntKind.i64).pr Ty.bool) [(ByteArray.mk #[(102 : UInt8), (111 : UInt8), (103 : UInt8)], (0 : Int), false), (ByteArray.mk #[(99 : UInt8), (108 : UInt8), (101 : UInt8), (97 : UInt8), (114 : UInt8)], (1 : Int), false), (ByteArray.mk #[(112 : UInt8), (117 : UInt8), (109 : UInt8), (112 : UInt8)], (2 : Int), true), (ByteArray.mk #[(119 : UInt8), (97 : UInt8), (105 : UInt8), (116 : UInt8)], (3 : Int), true), (ByteArray.mk #[(115 : UInt8), (116 : UInt8), (111 : UInt8), (99 : UInt8), (107 : UInt8)], (4 : Int), true), (ByteArray.mk #[(102 : UInt8), (105 : UInt8), (114 : UInt8), (101 : UInt8)], (5 : Int), true), (ByteArray.mk #[(115 : UInt8), (101 : UInt8), (116 : UInt8)], (6 : Int), true)] y1.1).getD ((0 : Int), false)).1, y2.1), true)))))))))))))
theorem q102 (K : Nat) (x1 : ByteArray) : evFnK (α := (Int × Int) × Bool) (L102_0 K) 3 102 Tryz.f102.results.toList (codeOf Tryz.f102) ins102 res102 (fun p => (p.1.1, p.1.2.1)) (x1, ()) = implf102 K x1 := by kernel_rfl
noncomputable def e102 (K : Nat) : Ent := ⟨ins102, res102, (Int × Int) × Bool, fun x => implf102 K x.1, fun _ => (fun y => ((y.1, y.2, ()), (()))), false⟩
theorem e102_ok (K : Nat) : EntOk Tryz.prog 102 (e102 K) := entOk_k (ins := ins102) (rs := res102) (α := (Int × Int) × Bool) (lib102_0 K) (d := 3) Tryz.func102 rfl (by kernel_rfl) (by kernel_rfl) (by kernel_rfl) (fun x => implf102 K x.1) (fun p => (p.1.1, p.1.2.1)) (fun y => ((y.1, y.2, ()), (()))) (fun _ => rfl) (fun x => q102 K x.1)

/-! diaphone/tone.within -/
abbrev ins106 : Fs := [(.dat (.int .i64), false), (.dat (.int .i64), false), (.dat (.int .i64), false)]
abbrev res106 : Sh := .dat (.bool)
theorem lp106 : loopsIn (codeOf Tryz.f106) 0 = [] := by kernel_rfl
noncomputable def L106_0 (K : Nat) : Lib := mkLib ti [] [] 106 []
theorem lib106_0 (K : Nat) : LibOk Tryz.prog (L106_0 K) := libOk_mk (ents := []) (bodies := []) (loops := []) order tiOk trivial trivial Tryz.func106 rfl lp106 trivial
noncomputable def implf106 (K : Nat) (x1 : Int) (x2 : Int) (x3 : Int) : Option (Bool) :=
  (bif decide (x1 ≥ x2) then some (decide (x1 ≤ x3)) else some (false))
theorem q106 (K : Nat) (x1 : Int) (x2 : Int) (x3 : Int) : evFnK (α := Bool) (L106_0 K) 3 106 Tryz.f106.results.toList (codeOf Tryz.f106) ins106 res106 (fun p => p.1) (x1, x2, x3, ()) = implf106 K x1 x2 x3 := by kernel_rfl
noncomputable def e106 (K : Nat) : Ent := ⟨ins106, res106, Bool, fun x => implf106 K x.1 x.2.1 x.2.2.1, fun _ => (fun y => (y, (()))), false⟩
theorem e106_ok (K : Nat) : EntOk Tryz.prog 106 (e106 K) := entOk_k (ins := ins106) (rs := res106) (α := Bool) (lib106_0 K) (d := 3) Tryz.func106 rfl (by kernel_rfl) (by kernel_rfl) (by kernel_rfl) (fun x => implf106 K x.1 x.2.1 x.2.2.1) (fun p => p.1) (fun y => (y, (()))) (fun _ => rfl) (fun x => q106 K x.1 x.2.1 x.2.2.1)

/-! diaphone/relay.within -/
abbrev ins116 : Fs := [(.dat (.int .i64), false), (.dat (.int .i64), false), (.dat (.int .i64), false)]
abbrev res116 : Sh := .dat (.bool)
theorem lp116 : loopsIn (codeOf Tryz.f116) 0 = [] := by kernel_rfl
noncomputable def L116_0 (K : Nat) : Lib := mkLib ti [] [] 116 []
theorem lib116_0 (K : Nat) : LibOk Tryz.prog (L116_0 K) := libOk_mk (ents := []) (bodies := []) (loops := []) order tiOk trivial trivial Tryz.func116 rfl lp116 trivial
noncomputable def implf116 (K : Nat) (x1 : Int) (x2 : Int) (x3 : Int) : Option (Bool) :=
  (bif decide (x2 ≤ x1) then some (decide (x1 ≤ x3)) else some (false))
theorem q116 (K : Nat) (x1 : Int) (x2 : Int) (x3 : Int) : evFnK (α := Bool) (L116_0 K) 3 116 Tryz.f116.results.toList (codeOf Tryz.f116) ins116 res116 (fun p => p.1) (x1, x2, x3, ()) = implf116 K x1 x2 x3 := by kernel_rfl
noncomputable def e116 (K : Nat) : Ent := ⟨ins116, res116, Bool, fun x => implf116 K x.1 x.2.1 x.2.2.1, fun _ => (fun y => (y, (()))), false⟩
theorem e116_ok (K : Nat) : EntOk Tryz.prog 116 (e116 K) := entOk_k (ins := ins116) (rs := res116) (α := Bool) (lib116_0 K) (d := 3) Tryz.func116 rfl (by kernel_rfl) (by kernel_rfl) (by kernel_rfl) (fun x => implf116 K x.1 x.2.1 x.2.2.1) (fun p => p.1) (fun y => (y, (()))) (fun _ => rfl) (fun x => q116 K x.1 x.2.1 x.2.2.1)

/-! slices.IndexFunc[[]int,int] -/
abbrev ins144a : Fs := [(.dat (.sl (.int .i64)), false), (.fn 139 .un, false)]
abbrev res144a : Sh := .dat (.int .i64)
theorem lp144 : loopsIn (codeOf Tryz.f144) 0 = [(0, loopOf 0 (codeOf Tryz.f144))] := by kernel_rfl
noncomputable def L144a_0 (K : Nat) : Lib := mkLib ti [(116, [e116 K])] [(119, Tryz.f119), (139, Tryz.f139)] 144 []
theorem lib144a_0 (K : Nat) : LibOk Tryz.prog (L144a_0 K) := libOk_mk (ents := [(116, [e116 K])]) (bodies := [(119, Tryz.f119), (139, Tryz.f139)]) (loops := []) order tiOk ⟨one_ent (e116_ok K), trivial⟩ ⟨bod119, bod139, trivial⟩ Tryz.func144 rfl lp144 ⟨no_lent, trivial⟩
abbrev i144a_0 : Fs := [(.dat (.sl (.int Go.IntKind.i64)), false), (.fn 139 (.un), false), (.dat (.int Go.IntKind.i64), false), (.dat (.int Go.IntKind.i64), true)]
noncomputable def implb144a_0 (K : Nat) (rc : (List Int) → Unit → Int → Int → Option (Sum (Int × Unit) Int)) (x1 : (List Int)) (x2 : Unit) (x3 : Int) (x4 : Int) : Option (Sum (Int × Unit) Int) :=
  (bif decide (x4 < x3) then (if (0 : Int) ≤ x4 ∧ x4 < (↑x1.length : Int) then (bif x1.getD x4.toNat ((0 : Int)) != (0 : Int) then (bif x1.getD x4.toNat ((0 : Int)) != (1 : Int) then some (Sum.inr x4) else (rc x1 x2 x3 (IntKind.i64.wrap (x4 + (1 : Int))))) else (rc x1 x2 x3 (IntKind.i64.wrap (x4 + (1 : Int))))) else none) else some (Sum.inl (x4, ())))
noncomputable def impll144a_0 (K : Nat) : Nat → (List Int) → Unit → Int → Int → Option (Sum (Int × Unit) Int)
  | 0, _, _, _, _ => none
  | k + 1, x1, x2, x3, x4 => implb144a_0 K (impll144a_0 K k) x1 x2 x3 x4
noncomputable def n144a_0 (K : Nat) : Lent := ⟨[0, 1, 7, 8], i144a_0, [9, 10, 5, 11, 12, 13, 14, 15, 16, 17, 4, 18], [0], true, res144a, fun x => impll144a_0 K K x.1 x.2.1 x.2.2.1 x.2.2.2.1, [], none⟩
theorem q144a_0 (K : Nat) (rc : (List Int) → Unit → Int → Int → Option (Sum (Int × Unit) Int)) (x1 : (List Int)) (x2 : Unit) (x3 : Int) (x4 : Int) : evLoop (L144a_0 K) 3 144 Tryz.f144.results.toList (loopOf 0 (codeOf Tryz.f144)) 0 [0, 1, 7, 8] [] i144a_0 [0] true res144a (fun x => rc x.1 x.2.1 x.2.2.1 x.2.2.2.1) (x1, x2, x3, x4, ()) = implb144a_0 K rc x1 x2 x3 x4 := by kernel_rfl
theorem lp144a_0 : loopsIn (loopOf 0 (codeOf Tryz.f144)) 0 = [] := by kernel_rfl
theorem n144a_0_ok (K : Nat) : LentOk Tryz.prog Tryz.f144 (loopOf 0 (codeOf Tryz.f144)) (n144a_0 K) := lentOk_k (slots := [0, 1, 7, 8]) (ali := []) (ins := i144a_0) (writes := [9, 10, 5, 11, 12, 13, 14, 15, 16, 17, 4, 18]) (exits := [0]) (rets := true) (rs := res144a) (d := 3) (lib144a_0 K) lp144a_0 trivial (by kernel_rfl) (by kernel_rfl) (by kernel_rfl) (by kernel_rfl) (by kernel_rfl) (fun k x => impll144a_0 K k x.1 x.2.1 x.2.2.1 x.2.2.2.1) (fun _ => rfl) (fun k x => q144a_0 K (impll144a_0 K k) x.1 x.2.1 x.2.2.1 x.2.2.2.1) K
noncomputable def L144a_1 (K : Nat) : Lib := mkLib ti [(116, [e116 K])] [(119, Tryz.f119), (139, Tryz.f139)] 144 [(0, [n144a_0 K])]
theorem lib144a_1 (K : Nat) : LibOk Tryz.prog (L144a_1 K) := libOk_mk (ents := [(116, [e116 K])]) (bodies := [(119, Tryz.f119), (139, Tryz.f139)]) (loops := [(0, [n144a_0 K])]) order tiOk ⟨one_ent (e116_ok K), trivial⟩ ⟨bod119, bod139, trivial⟩ Tryz.func144 rfl lp144 ⟨one_lent (n144a_0_ok K), trivial⟩
noncomputable def implf144a (K : Nat) (x1 : (List Int)) (x2 : Unit) : Option (Int) :=
  (ob (impll144a_0 K K x1 () ((↑x1.length : Int)) ((0 : Int))) fun y1 => (match y1 with | .inl y2 => some ((-1 : Int)) | .inr y2 => some (y2)))
theorem q144a (K : Nat) (x1 : (List Int)) (x2 : Unit) : evFnK (α := Int) (L144a_1 K) 3 144 Tryz.f144.results.toList (codeOf Tryz.f144) ins144a res144a (fun p => p.1) (x1, x2, ()) = implf144a K x1 x2 := by kernel_rfl
noncomputable def e144a (K : Nat) : Ent := ⟨ins144a, res144a, Int, fun x => implf144a K x.1 x.2.1, fun _ => (fun y => (y, (()))), false⟩
theorem e144a_ok (K : Nat) : EntOk Tryz.prog 144 (e144a K) := entOk_k (ins := ins144a) (rs := res144a) (α := Int) (lib144a_1 K) (d := 3) Tryz.func144 rfl (by kernel_rfl) (by kernel_rfl) (by kernel_rfl) (fun x => implf144a K x.1 x.2.1) (fun p => p.1) (fun y => (y, (()))) (fun _ => rfl) (fun x => q144a K x.1 x.2.1)

abbrev ins144b : Fs := [(.dat (.sl (.int .i64)), false), (.fn 119 .un, false)]
abbrev res144b : Sh := .dat (.int .i64)
noncomputable def L144b_0 (K : Nat) : Lib := mkLib ti [(116, [e116 K])] [(119, Tryz.f119), (139, Tryz.f139)] 144 []
theorem lib144b_0 (K : Nat) : LibOk Tryz.prog (L144b_0 K) := libOk_mk (ents := [(116, [e116 K])]) (bodies := [(119, Tryz.f119), (139, Tryz.f139)]) (loops := []) order tiOk ⟨one_ent (e116_ok K), trivial⟩ ⟨bod119, bod139, trivial⟩ Tryz.func144 rfl lp144 ⟨no_lent, trivial⟩
abbrev i144b_0 : Fs := [(.dat (.sl (.int Go.IntKind.i64)), false), (.fn 119 (.un), false), (.dat (.int Go.IntKind.i64), false), (.dat (.int Go.IntKind.i64), true)]
noncomputable def implb144b_0 (K : Nat) (rc : (List Int) → Unit → Int → Int → Option (Sum (Int × Unit) Int)) (x1 : (List Int)) (x2 : Unit) (x3 : Int) (x4 : Int) : Option (Sum (Int × Unit) Int) :=
  (bif decide (x4 < x3) then (if (0 : Int) ≤ x4 ∧ x4 < (↑x1.length : Int) then (ob (implf116 K (x1.getD x4.toNat ((0 : Int))) ((0 : Int)) ((1 : Int))) fun y1 => (bif !y1 then some (Sum.inr x4) else (rc x1 x2 x3 (IntKind.i64.wrap (x4 + (1 : Int)))))) else none) else some (Sum.inl (x4, ())))
noncomputable def impll144b_0 (K : Nat) : Nat → (List Int) → Unit → Int → Int → Option (Sum (Int × Unit) Int)
  | 0, _, _, _, _ => none
  | k + 1, x1, x2, x3, x4 => implb144b_0 K (impll144b_0 K k) x1 x2 x3 x4
noncomputable def n144b_0 (K : Nat) : Lent := ⟨[0, 1, 7, 8], i144b_0, [9, 10, 5, 11, 12, 13, 14, 15, 16, 17, 4, 18], [0], true, res144b, fun x => impll144b_0 K K x.1 x.2.1 x.2.2.1 x.2.2.2.1, [], none⟩
theorem q144b_0 (K : Nat) (rc : (List Int) → Unit → Int → Int → Option (Sum (Int × Unit) Int)) (x1 : (List Int)) (x2 : Unit) (x3 : Int) (x4 : Int) : evLoop (L144b_0 K) 3 144 Tryz.f144.results.toList (loopOf 0 (codeOf Tryz.f144)) 0 [0, 1, 7, 8] [] i144b_0 [0] true res144b (fun x => rc x.1 x.2.1 x.2.2.1 x.2.2.2.1) (x1, x2, x3, x4, ()) = implb144b_0 K rc x1 x2 x3 x4 := by kernel_rfl
theorem lp144b_0 : loopsIn (loopOf 0 (codeOf Tryz.f144)) 0 = [] := by kernel_rfl
theorem n144b_0_ok (K : Nat) : LentOk Tryz.prog Tryz.f144 (loopOf 0 (codeOf Tryz.f144)) (n144b_0 K) := lentOk_k (slots := [0, 1, 7, 8]) (ali := []) (ins := i144b_0) (writes := [9, 10, 5, 11, 12, 13, 14, 15, 16, 17, 4, 18]) (exits := [0]) (rets := true) (rs := res144b) (d := 3) (lib144b_0 K) lp144b_0 trivial (by kernel_rfl) (by kernel_rfl) (by kernel_rfl) (by kernel_rfl) (by kernel_rfl) (fun k x => impll144b_0 K k x.1 x.2.1 x.2.2.1 x.2.2.2.1) (fun _ => rfl) (fun k x => q144b_0 K (impll144b_0 K k) x.1 x.2.1 x.2.2.1 x.2.2.2.1) K
noncomputable def L144b_1 (K : Nat) : Lib := mkLib ti [(116, [e116 K])] [(119, Tryz.f119), (139, Tryz.f139)] 144 [(0, [n144b_0 K])]
theorem lib144b_1 (K : Nat) : LibOk Tryz.prog (L144b_1 K) := libOk_mk (ents := [(116, [e116 K])]) (bodies := [(119, Tryz.f119), (139, Tryz.f139)]) (loops := [(0, [n144b_0 K])]) order tiOk ⟨one_ent (e116_ok K), trivial⟩ ⟨bod119, bod139, trivial⟩ Tryz.func144 rfl lp144 ⟨one_lent (n144b_0_ok K), trivial⟩
noncomputable def implf144b (K : Nat) (x1 : (List Int)) (x2 : Unit) : Option (Int) :=
  (ob (impll144b_0 K K x1 () ((↑x1.length : Int)) ((0 : Int))) fun y1 => (match y1 with | .inl y2 => some ((-1 : Int)) | .inr y2 => some (y2)))
theorem q144b (K : Nat) (x1 : (List Int)) (x2 : Unit) : evFnK (α := Int) (L144b_1 K) 3 144 Tryz.f144.results.toList (codeOf Tryz.f144) ins144b res144b (fun p => p.1) (x1, x2, ()) = implf144b K x1 x2 := by kernel_rfl
noncomputable def e144b (K : Nat) : Ent := ⟨ins144b, res144b, Int, fun x => implf144b K x.1 x.2.1, fun _ => (fun y => (y, (()))), false⟩
theorem e144b_ok (K : Nat) : EntOk Tryz.prog 144 (e144b K) := entOk_k (ins := ins144b) (rs := res144b) (α := Int) (lib144b_1 K) (d := 3) Tryz.func144 rfl (by kernel_rfl) (by kernel_rfl) (by kernel_rfl) (fun x => implf144b K x.1 x.2.1) (fun p => p.1) (fun y => (y, (()))) (fun _ => rfl) (fun x => q144b K x.1 x.2.1)

/-! diaphone/tone.Validate -/
abbrev ins77 : Fs := [(.dat (.sl (.int .i64)), false)]
abbrev res77 : Sh := .dat (.int .i64)
theorem lp77 : loopsIn (codeOf Tryz.f77) 0 = [] := by kernel_rfl
noncomputable def L77_0 (K : Nat) : Lib := mkLib ti [(106, [e106 K]), (144, [e144a K, e144b K])] [(107, Tryz.f107), (118, Tryz.f118), (139, Tryz.f139)] 77 []
theorem lib77_0 (K : Nat) : LibOk Tryz.prog (L77_0 K) := libOk_mk (ents := [(106, [e106 K]), (144, [e144a K, e144b K])]) (bodies := [(107, Tryz.f107), (118, Tryz.f118), (139, Tryz.f139)]) (loops := []) order tiOk ⟨one_ent (e106_ok K), more_ent (e144a_ok K) (one_ent (e144b_ok K)), trivial⟩ ⟨bod107, bod118, bod139, trivial⟩ Tryz.func77 rfl lp77 trivial
noncomputable def implf77 (K : Nat) (x1 : (List Int)) : Option (Int) :=
  (ob (implf106 K ((↑x1.length : Int)) ((1 : Int)) ((24 : Int))) fun y1 => (bif !y1 then some ((3 : Int)) else (ob (implf144a K x1 ()) fun y2 => (bif !!decide (y2 ≥ (0 : Int)) then some ((1 : Int)) else some ((0 : Int))))))
theorem q77 (K : Nat) (x1 : (List Int)) : evFnK (α := Int) (L77_0 K) 3 77 Tryz.f77.results.toList (codeOf Tryz.f77) ins77 res77 (fun p => p.1) (x1, ()) = implf77 K x1 := by kernel_rfl
noncomputable def e77 (K : Nat) : Ent := ⟨ins77, res77, Int, fun x => implf77 K x.1, fun _ => (fun y => (y, (()))), false⟩
theorem e77_ok (K : Nat) : EntOk Tryz.prog 77 (e77 K) := entOk_k (ins := ins77) (rs := res77) (α := Int) (lib77_0 K) (d := 3) Tryz.func77 rfl (by kernel_rfl) (by kernel_rfl) (by kernel_rfl) (fun x => implf77 K x.1) (fun p => p.1) (fun y => (y, (()))) (fun _ => rfl) (fun x => q77 K x.1)

/-! diaphone/tone.sounding -/
abbrev ins78 : Fs := [(.dat (.sl (.int .i64)), false)]
abbrev res78 : Sh := .dat (.int .i64)
theorem lp78 : loopsIn (codeOf Tryz.f78) 0 = [(0, loopOf 0 (codeOf Tryz.f78))] := by kernel_rfl
noncomputable def L78_0 (K : Nat) : Lib := mkLib ti [] [] 78 []
theorem lib78_0 (K : Nat) : LibOk Tryz.prog (L78_0 K) := libOk_mk (ents := []) (bodies := []) (loops := []) order tiOk trivial trivial Tryz.func78 rfl lp78 ⟨no_lent, trivial⟩
abbrev i78_0 : Fs := [(.dat (.int Go.IntKind.i64), true), (.dat (.sl (.int Go.IntKind.i64)), false), (.dat (.int Go.IntKind.i64), false), (.dat (.int Go.IntKind.i64), true)]
noncomputable def implb78_0 (K : Nat) (rc : Int → (List Int) → Int → Int → Option (Int × Int × Unit)) (x1 : Int) (x2 : (List Int)) (x3 : Int) (x4 : Int) : Option (Int × Int × Unit) :=
  (bif decide (x4 < x3) then (if (0 : Int) ≤ x4 ∧ x4 < (↑x2.length : Int) then (rc (IntKind.i64.wrap (x1 + x2.getD x4.toNat ((0 : Int)))) x2 x3 (IntKind.i64.wrap (x4 + (1 : Int)))) else none) else some ((x1, x4, ())))
noncomputable def impll78_0 (K : Nat) : Nat → Int → (List Int) → Int → Int → Option (Int × Int × Unit)
  | 0, _, _, _, _ => none
  | k + 1, x1, x2, x3, x4 => implb78_0 K (impll78_0 K k) x1 x2 x3 x4
noncomputable def n78_0 (K : Nat) : Lent := ⟨[3, 6, 7, 8], i78_0, [9, 10, 11, 5, 12, 13, 14, 15], [0], false, res78, fun x => impll78_0 K K x.1 x.2.1 x.2.2.1 x.2.2.2.1, [], none⟩
theorem q78_0 (K : Nat) (rc : Int → (List Int) → Int → Int → Option (Int × Int × Unit)) (x1 : Int) (x2 : (List Int)) (x3 : Int) (x4 : Int) : evLoop (L78_0 K) 3 78 Tryz.f78.results.toList (loopOf 0 (codeOf Tryz.f78)) 0 [3, 6, 7, 8] [] i78_0 [0] false res78 (fun x => rc x.1 x.2.1 x.2.2.1 x.2.2.2.1) (x1, x2, x3, x4, ()) = implb78_0 K rc x1 x2 x3 x4 := by kernel_rfl
theorem lp78_0 : loopsIn (loopOf 0 (codeOf Tryz.f78)) 0 = [] := by kernel_rfl
theorem n78_0_ok (K : Nat) : LentOk Tryz.prog Tryz.f78 (loopOf 0 (codeOf Tryz.f78)) (n78_0 K) := lentOk_k (slots := [3, 6, 7, 8]) (ali := []) (ins := i78_0) (writes := [9, 10, 11, 5, 12, 13, 14, 15]) (exits := [0]) (rets := false) (rs := res78) (d := 3) (lib78_0 K) lp78_0 trivial (by kernel_rfl) (by kernel_rfl) (by kernel_rfl) (by kernel_rfl) (by kernel_rfl) (fun k x => impll78_0 K k x.1 x.2.1 x.2.2.1 x.2.2.2.1) (fun _ => rfl) (fun k x => q78_0 K (impll78_0 K k) x.1 x.2.1 x.2.2.1 x.2.2.2.1) K
noncomputable def L78_1 (K : Nat) : Lib := mkLib ti [] [] 78 [(0, [n78_0 K])]
theorem lib78_1 (K : Nat) : LibOk Tryz.prog (L78_1 K) := libOk_mk (ents := []) (bodies := []) (loops := [(0, [n78_0 K])]) order tiOk trivial trivial Tryz.func78 rfl lp78 ⟨one_lent (n78_0_ok K), trivial⟩
noncomputable def implf78 (K : Nat) (x1 : (List Int)) : Option (Int) :=
  (ob (impll78_0 K K ((0 : Int)) x1 ((↑x1.length : Int)) ((0 : Int))) fun y1 => some (y1.1))
theorem q78 (K : Nat) (x1 : (List Int)) : evFnK (α := Int) (L78_1 K) 3 78 Tryz.f78.results.toList (codeOf Tryz.f78) ins78 res78 (fun p => p.1) (x1, ()) = implf78 K x1 := by kernel_rfl
noncomputable def e78 (K : Nat) : Ent := ⟨ins78, res78, Int, fun x => implf78 K x.1, fun _ => (fun y => (y, (()))), false⟩
theorem e78_ok (K : Nat) : EntOk Tryz.prog 78 (e78 K) := entOk_k (ins := ins78) (rs := res78) (α := Int) (lib78_1 K) (d := 3) Tryz.func78 rfl (by kernel_rfl) (by kernel_rfl) (by kernel_rfl) (fun x => implf78 K x.1) (fun p => p.1) (fun y => (y, (()))) (fun _ => rfl) (fun x => q78 K x.1)

/-! diaphone/tone.Sounding -/
abbrev ins36 : Fs := [(.dat (.sl (.int .i64)), false)]
abbrev res36 : Sh := .cons (.dat (.int .i64)) (.cons (.dat (.int .i64)) (.un))
theorem lp36 : loopsIn (codeOf Tryz.f36) 0 = [] := by kernel_rfl
noncomputable def L36_0 (K : Nat) : Lib := mkLib ti [(77, [e77 K]), (78, [e78 K])] [] 36 []
theorem lib36_0 (K : Nat) : LibOk Tryz.prog (L36_0 K) := libOk_mk (ents := [(77, [e77 K]), (78, [e78 K])]) (bodies := []) (loops := []) order tiOk ⟨one_ent (e77_ok K), one_ent (e78_ok K), trivial⟩ trivial Tryz.func36 rfl lp36 trivial
noncomputable def implf36 (K : Nat) (x1 : (List Int)) : Option (Int × Int) :=
  (ob (implf77 K x1) fun y1 => (bif y1 != (0 : Int) then some (((0 : Int), y1)) else (ob (implf78 K x1) fun y2 => some ((y2, (0 : Int))))))
theorem q36 (K : Nat) (x1 : (List Int)) : evFnK (α := Int × Int) (L36_0 K) 3 36 Tryz.f36.results.toList (codeOf Tryz.f36) ins36 res36 (fun p => (p.1.1, p.1.2.1)) (x1, ()) = implf36 K x1 := by kernel_rfl
noncomputable def e36 (K : Nat) : Ent := ⟨ins36, res36, Int × Int, fun x => implf36 K x.1, fun _ => (fun y => ((y.1, y.2, ()), (()))), false⟩
theorem e36_ok (K : Nat) : EntOk Tryz.prog 36 (e36 K) := entOk_k (ins := ins36) (rs := res36) (α := Int × Int) (lib36_0 K) (d := 3) Tryz.func36 rfl (by kernel_rfl) (by kernel_rfl) (by kernel_rfl) (fun x => implf36 K x.1) (fun p => (p.1.1, p.1.2.1)) (fun y => ((y.1, y.2, ()), (()))) (fun _ => rfl) (fun x => q36 K x.1)

/-! (*diaphone/station.Station).need -/
abbrev ins90 : Fs := [(.box (.dat (.pr (.pr (.int .i32) (.int .u32)) (.pr (.sl (.int .i64)) (.pr (.sl (.int .i64)) (.pr (.pr (.sl (.arr 2 (.int .i64))) (.sl (.int .i64))) (.pr (.int .i64) (.pr (.bool) (.pr (.int .i64) (.pr (.int .i64) (.pr (.int .i64) (.pr (.int .i64) (.pr (.int .i64) (.pr (.int .i64) (.pr (.int .i64) (.pr (.int .i64) (.pr (.int .i64) (.pr (.int .i64) (.sl (.str))))))))))))))))))), false)]
abbrev res90 : Sh := .dat (.int .i64)
theorem lp90 : loopsIn (codeOf Tryz.f90) 0 = [] := by kernel_rfl
noncomputable def L90_0 (K : Nat) : Lib := mkLib ti [(36, [e36 K])] [] 90 []
theorem lib90_0 (K : Nat) : LibOk Tryz.prog (L90_0 K) := libOk_mk (ents := [(36, [e36 K])]) (bodies := []) (loops := []) order tiOk ⟨one_ent (e36_ok K), trivial⟩ trivial Tryz.func90 rfl lp90 trivial
noncomputable def implf90 (K : Nat) (x1 : STN) : Option (Int) :=
  (ob (implf36 K x1.2.1) fun y1 => some (y1.1))
theorem q90 (K : Nat) (x1 : STN) : evFnK (α := Int) (L90_0 K) 3 90 Tryz.f90.results.toList (codeOf Tryz.f90) ins90 res90 (fun p => p.1) (x1, ()) = implf90 K x1 := by kernel_rfl
noncomputable def e90 (K : Nat) : Ent := ⟨ins90, res90, Int, fun x => implf90 K x.1, fun _ => (fun y => (y, (()))), false⟩
theorem e90_ok (K : Nat) : EntOk Tryz.prog 90 (e90 K) := entOk_k (ins := ins90) (rs := res90) (α := Int) (lib90_0 K) (d := 3) Tryz.func90 rfl (by kernel_rfl) (by kernel_rfl) (by kernel_rfl) (fun x => implf90 K x.1) (fun p => p.1) (fun y => (y, (()))) (fun _ => rfl) (fun x => q90 K x.1)

/-! (*diaphone/station.Station).pass -/
abbrev ins137 : Fs := [(.box (.dat (.pr (.pr (.int .i32) (.int .u32)) (.pr (.sl (.int .i64)) (.pr (.sl (.int .i64)) (.pr (.pr (.sl (.arr 2 (.int .i64))) (.sl (.int .i64))) (.pr (.int .i64) (.pr (.bool) (.pr (.int .i64) (.pr (.int .i64) (.pr (.int .i64) (.pr (.int .i64) (.pr (.int .i64) (.pr (.int .i64) (.pr (.int .i64) (.pr (.int .i64) (.pr (.int .i64) (.pr (.int .i64) (.sl (.str))))))))))))))))))), false), (.box (.dat (.pr (.int .i64) (.pr (.bool) (.pr (.int .i64) (.pr (.int .i64) (.pr (.int .i64) (.pr (.int .i64) (.pr (.int .i64) (.pr (.int .i64) (.pr (.int .i64) (.pr (.int .i64) (.pr (.int .i64) (.pr (.int .i64) (.sl (.str))))))))))))))), true)]
abbrev res137 : Sh := .nix
theorem lp137 : loopsIn (codeOf Tryz.f137) 0 = [] := by kernel_rfl
noncomputable def L137_0 (K : Nat) : Lib := mkLib ti [(90, [e90 K])] [] 137 []
theorem lib137_0 (K : Nat) : LibOk Tryz.prog (L137_0 K) := libOk_mk (ents := [(90, [e90 K])]) (bodies := []) (loops := []) order tiOk ⟨one_ent (e90_ok K), trivial⟩ trivial Tryz.func137 rfl lp137 trivial
noncomputable def implf137 (K : Nat) (x1 : STN) (x2 : (Int × (Bool × (Int × (Int × (Int × (Int × (Int × (Int × (Int × (Int × (Int × (Int × (List ByteArray)))))))))))))) : Option ((Int × (Bool × (Int × (Int × (Int × (Int × (Int × (Int × (Int × (Int × (Int × (Int × (List ByteArray)))))))))))))) :=
  (bif x2.2.1 then (if (0 : Int) ≤ x2.2.2.1 ∧ x2.2.2.1 < (↑x1.2.2.2.1.1.length : Int) then (if (0 : Int) ≤ (x1.2.2.2.1.1.getD x2.2.2.1.toNat (List.replicate 2 ((0 : Int)))).getD (1) ((0 : Int)) ∧ (x1.2.2.2.1.1.getD x2.2.2.1.toNat (List.replicate 2 ((0 : Int)))).getD (1) ((0 : Int)) < (↑x1.2.2.2.1.2.length : Int) then (bif x1.2.2.2.1.2.getD ((x1.2.2.2.1.1.getD x2.2.2.1.toNat (List.replicate 2 ((0 : Int)))).getD (1) ((0 : Int))).toNat ((0 : Int)) == (0 : Int) then some ((IntKind.i64.wrap (x2.1 + (1 : Int)), x2.2.1, (x1.2.2.2.1.1.getD x2.2.2.1.toNat (List.replicate 2 ((0 : Int)))).getD (1) ((0 : Int)), x2.2.2.2.1, x2.2.2.2.2.1, IntKind.i64.wrap (x2.2.2.2.2.2.1 + (1 : Int)), x2.2.2.2.2.2.2)) else (ob (implf90 K x1) fun y1 => (bif decide (x2.2.2.2.1 < y1) then some ((IntKind.i64.wrap (x2.1 + (1 : Int)), x2.2.1, (x1.2.2.2.1.1.getD x2.2.2.1.toNat (List.replicate 2 ((0 : Int)))).getD (1) ((0 : Int)), x2.2.2.2.1, x2.2.2.2.2.1, IntKind.i64.wrap (x2.2.2.2.2.2.1 + (1 : Int)), x2.2.2.2.2.2.2.1, IntKind.i64.wrap (x2.2.2.2.2.2.2.2.1 + (1 : Int)), x2.2.2.2.2.2.2.2.2)) else (ob (implf90 K x1) fun y2 => some ((IntKind.i64.wrap (x2.1 + (1 : Int)), x2.2.1, (x1.2.2.2.1.1.getD x2.2.2.1.toNat (List.replicate 2 ((0 : Int)))).getD (1) ((0 : Int)), IntKind.i64.wrap (x2.2.2.2.1 - y2), x2.2.2.2.2.1, IntKind.i64.wrap (x2.2.2.2.2.2.1 + (1 : Int)), IntKind.i64.wrap (x2.2.2.2.2.2.2.1 + (1 : Int)), x2.2.2.2.2.2.2.2)))))) else none) else none) else (if (0 : Int) ≤ x2.2.2.1 ∧ x2.2.2.1 < (↑x1.2.2.2.1.1.length : Int) then (if (0 : Int) ≤ (x1.2.2.2.1.1.getD x2.2.2.1.toNat (List.replicate 2 ((0 : Int)))).getD (0) ((0 : Int)) ∧ (x1.2.2.2.1.1.getD x2.2.2.1.toNat (List.replicate 2 ((0 : Int)))).getD (0) ((0 : Int)) < (↑x1.2.2.2.1.2.length : Int) then (bif x1.2.2.2.1.2.getD ((x1.2.2.2.1.1.getD x2.2.2.1.toNat (List.replicate 2 ((0 : Int)))).getD (0) ((0 : Int))).toNat ((0 : Int)) == (0 : Int) then some ((IntKind.i64.wrap (x2.1 + (1 : Int)), x2.2.1, (x1.2.2.2.1.1.getD x2.2.2.1.toNat (List.replicate 2 ((0 : Int)))).getD (0) ((0 : Int)), x2.2.2.2)) else (ob (implf90 K x1) fun y3 => (bif decide (x2.2.2.2.1 < y3) then some ((IntKind.i64.wrap (x2.1 + (1 : Int)), x2.2.1, (x1.2.2.2.1.1.getD x2.2.2.1.toNat (List.replicate 2 ((0 : Int)))).getD (0) ((0 : Int)), x2.2.2.2.1, x2.2.2.2.2.1, x2.2.2.2.2.2.1, x2.2.2.2.2.2.2.1, IntKind.i64.wrap (x2.2.2.2.2.2.2.2.1 + (1 : Int)), x2.2.2.2.2.2.2.2.2)) else (ob (implf90 K x1) fun y4 => some ((IntKind.i64.wrap (x2.1 + (1 : Int)), x2.2.1, (x1.2.2.2.1.1.getD x2.2.2.1.toNat (List.replicate 2 ((0 : Int)))).getD (0) ((0 : Int)), IntKind.i64.wrap (x2.2.2.2.1 - y4), x2.2.2.2.2.1, x2.2.2.2.2.2.1, IntKind.i64.wrap (x2.2.2.2.2.2.2.1 + (1 : Int)), x2.2.2.2.2.2.2.2)))))) else none) else none))
theorem q137 (K : Nat) (x1 : STN) (x2 : (Int × (Bool × (Int × (Int × (Int × (Int × (Int × (Int × (Int × (Int × (Int × (Int × (List ByteArray)))))))))))))) : evFnK (α := (Int × (Bool × (Int × (Int × (Int × (Int × (Int × (Int × (Int × (Int × (Int × (Int × (List ByteArray)))))))))))))) (L137_0 K) 3 137 Tryz.f137.results.toList (codeOf Tryz.f137) ins137 res137 (fun p => p.2.1) (x1, x2, ()) = implf137 K x1 x2 := by kernel_rfl
noncomputable def e137 (K : Nat) : Ent := ⟨ins137, res137, (Int × (Bool × (Int × (Int × (Int × (Int × (Int × (Int × (Int × (Int × (Int × (Int × (List ByteArray))))))))))))), fun x => implf137 K x.1 x.2.1, fun _ => (fun y => ((), (y, ()))), false⟩
theorem e137_ok (K : Nat) : EntOk Tryz.prog 137 (e137 K) := entOk_k (ins := ins137) (rs := res137) (α := (Int × (Bool × (Int × (Int × (Int × (Int × (Int × (Int × (Int × (Int × (Int × (Int × (List ByteArray)))))))))))))) (lib137_0 K) (d := 3) Tryz.func137 rfl (by kernel_rfl) (by kernel_rfl) (by kernel_rfl) (fun x => implf137 K x.1 x.2.1) (fun p => p.2.1) (fun y => ((), (y, ()))) (fun _ => rfl) (fun x => q137 K x.1 x.2.1)

/-! diaphone/charge.within -/
abbrev ins105 : Fs := [(.dat (.int .i64), false), (.dat (.int .i64), false), (.dat (.int .i64), false)]
abbrev res105 : Sh := .dat (.bool)
theorem lp105 : loopsIn (codeOf Tryz.f105) 0 = [] := by kernel_rfl
noncomputable def L105_0 (K : Nat) : Lib := mkLib ti [] [] 105 []
theorem lib105_0 (K : Nat) : LibOk Tryz.prog (L105_0 K) := libOk_mk (ents := []) (bodies := []) (loops := []) order tiOk trivial trivial Tryz.func105 rfl lp105 trivial
noncomputable def implf105 (K : Nat) (x1 : Int) (x2 : Int) (x3 : Int) : Option (Bool) :=
  (bif decide (x1 ≥ x2) then some (decide (x1 ≤ x3)) else some (false))
theorem q105 (K : Nat) (x1 : Int) (x2 : Int) (x3 : Int) : evFnK (α := Bool) (L105_0 K) 3 105 Tryz.f105.results.toList (codeOf Tryz.f105) ins105 res105 (fun p => p.1) (x1, x2, x3, ()) = implf105 K x1 x2 x3 := by kernel_rfl
noncomputable def e105 (K : Nat) : Ent := ⟨ins105, res105, Bool, fun x => implf105 K x.1 x.2.1 x.2.2.1, fun _ => (fun y => (y, (()))), false⟩
theorem e105_ok (K : Nat) : EntOk Tryz.prog 105 (e105 K) := entOk_k (ins := ins105) (rs := res105) (α := Bool) (lib105_0 K) (d := 3) Tryz.func105 rfl (by kernel_rfl) (by kernel_rfl) (by kernel_rfl) (fun x => implf105 K x.1 x.2.1 x.2.2.1) (fun p => p.1) (fun y => (y, (()))) (fun _ => rfl) (fun x => q105 K x.1 x.2.1 x.2.2.1)

/-! diaphone/charge.Validate -/
abbrev ins86 : Fs := [(.dat (.sl (.int .i64)), false)]
abbrev res86 : Sh := .dat (.int .i64)
theorem lp86 : loopsIn (codeOf Tryz.f86) 0 = [(0, loopOf 0 (codeOf Tryz.f86))] := by kernel_rfl
noncomputable def L86_0 (K : Nat) : Lib := mkLib ti [(105, [e105 K])] [] 86 []
theorem lib86_0 (K : Nat) : LibOk Tryz.prog (L86_0 K) := libOk_mk (ents := [(105, [e105 K])]) (bodies := []) (loops := []) order tiOk ⟨one_ent (e105_ok K), trivial⟩ trivial Tryz.func86 rfl lp86 ⟨no_lent, trivial⟩
abbrev i86_0 : Fs := [(.dat (.sl (.int Go.IntKind.i64)), false), (.dat (.sl (.int Go.IntKind.i64)), false), (.dat (.int Go.IntKind.i64), false), (.dat (.int Go.IntKind.i64), true)]
noncomputable def implb86_0 (K : Nat) (rc : (List Int) → (List Int) → Int → Int → Option (Sum (Int × Unit) Int)) (x1 : (List Int)) (x2 : (List Int)) (x3 : Int) (x4 : Int) : Option (Sum (Int × Unit) Int) :=
  (bif decide (x4 < x3) then (if (0 : Int) ≤ x4 ∧ x4 < (↑x2.length : Int) then (ob (implf105 K (x2.getD x4.toNat ((0 : Int))) ((1 : Int)) ((30 : Int))) fun y1 => (bif !y1 then some (Sum.inr ((1 : Int))) else (bif decide (x4 > (0 : Int)) then (if (0 : Int) ≤ IntKind.i64.wrap (x4 - (1 : Int)) ∧ IntKind.i64.wrap (x4 - (1 : Int)) < (↑x1.length : Int) then (bif decide (x2.getD x4.toNat ((0 : Int)) ≤ x1.getD (IntKind.i64.wrap (x4 - (1 : Int))).toNat ((0 : Int))) then some (Sum.inr ((1 : Int))) else (rc x1 x2 x3 (IntKind.i64.wrap (x4 + (1 : Int))))) else none) else (rc x1 x2 x3 (IntKind.i64.wrap (x4 + (1 : Int))))))) else none) else some (Sum.inl (x4, ())))
noncomputable def impll86_0 (K : Nat) : Nat → (List Int) → (List Int) → Int → Int → Option (Sum (Int × Unit) Int)
  | 0, _, _, _, _ => none
  | k + 1, x1, x2, x3, x4 => implb86_0 K (impll86_0 K k) x1 x2 x3 x4
noncomputable def n86_0 (K : Nat) : Lent := ⟨[0, 9, 10, 11], i86_0, [12, 13, 14, 15, 3, 4, 16, 17, 18, 19, 20, 21, 22, 23, 24, 25, 26, 27, 28, 29, 30, 31, 2, 32], [0], true, res86, fun x => impll86_0 K K x.1 x.2.1 x.2.2.1 x.2.2.2.1, [], none⟩
theorem q86_0 (K : Nat) (rc : (List Int) → (List Int) → Int → Int → Option (Sum (Int × Unit) Int)) (x1 : (List Int)) (x2 : (List Int)) (x3 : Int) (x4 : Int) : evLoop (L86_0 K) 3 86 Tryz.f86.results.toList (loopOf 0 (codeOf Tryz.f86)) 0 [0, 9, 10, 11] [] i86_0 [0] true res86 (fun x => rc x.1 x.2.1 x.2.2.1 x.2.2.2.1) (x1, x2, x3, x4, ()) = implb86_0 K rc x1 x2 x3 x4 := by kernel_rfl
theorem lp86_0 : loopsIn (loopOf 0 (codeOf Tryz.f86)) 0 = [] := by kernel_rfl
theorem n86_0_ok (K : Nat) : LentOk Tryz.prog Tryz.f86 (loopOf 0 (codeOf Tryz.f86)) (n86_0 K) := lentOk_k (slots := [0, 9, 10, 11]) (ali := []) (ins := i86_0) (writes := [12, 13, 14, 15, 3, 4, 16, 17, 18, 19, 20, 21, 22, 23, 24, 25, 26, 27, 28, 29, 30, 31, 2, 32]) (exits := [0]) (rets := true) (rs := res86) (d := 3) (lib86_0 K) lp86_0 trivial (by kernel_rfl) (by kernel_rfl) (by kernel_rfl) (by kernel_rfl) (by kernel_rfl) (fun k x => impll86_0 K k x.1 x.2.1 x.2.2.1 x.2.2.2.1) (fun _ => rfl) (fun k x => q86_0 K (impll86_0 K k) x.1 x.2.1 x.2.2.1 x.2.2.2.1) K
noncomputable def L86_1 (K : Nat) : Lib := mkLib ti [(105, [e105 K])] [] 86 [(0, [n86_0 K])]
theorem lib86_1 (K : Nat) : LibOk Tryz.prog (L86_1 K) := libOk_mk (ents := [(105, [e105 K])]) (bodies := []) (loops := [(0, [n86_0 K])]) order tiOk ⟨one_ent (e105_ok K), trivial⟩ trivial Tryz.func86 rfl lp86 ⟨one_lent (n86_0_ok K), trivial⟩
noncomputable def implf86 (K : Nat) (x1 : (List Int)) : Option (Int) :=
  (ob (implf105 K ((↑x1.length : Int)) ((1 : Int)) ((4 : Int))) fun y1 => (bif !y1 then some ((3 : Int)) else (ob (impll86_0 K K x1 x1 ((↑x1.length : Int)) ((0 : Int))) fun y2 => (match y2 with | .inl y3 => some ((0 : Int)) | .inr y3 => some (y3)))))
theorem q86 (K : Nat) (x1 : (List Int)) : evFnK (α := Int) (L86_1 K) 3 86 Tryz.f86.results.toList (codeOf Tryz.f86) ins86 res86 (fun p => p.1) (x1, ()) = implf86 K x1 := by kernel_rfl
noncomputable def e86 (K : Nat) : Ent := ⟨ins86, res86, Int, fun x => implf86 K x.1, fun _ => (fun y => (y, (()))), false⟩
theorem e86_ok (K : Nat) : EntOk Tryz.prog 86 (e86 K) := entOk_k (ins := ins86) (rs := res86) (α := Int) (lib86_1 K) (d := 3) Tryz.func86 rfl (by kernel_rfl) (by kernel_rfl) (by kernel_rfl) (fun x => implf86 K x.1) (fun p => p.1) (fun y => (y, (()))) (fun _ => rfl) (fun x => q86 K x.1)

/-! diaphone/charge.amounted -/
abbrev ins74 : Fs := [(.dat (.sl (.int .i64)), false), (.dat (.int .i64), false)]
abbrev res74 : Sh := .dat (.int .i64)
theorem lp74 : loopsIn (codeOf Tryz.f74) 0 = [] := by kernel_rfl
noncomputable def L74_0 (K : Nat) : Lib := mkLib ti [(86, [e86 K]), (105, [e105 K])] [] 74 []
theorem lib74_0 (K : Nat) : LibOk Tryz.prog (L74_0 K) := libOk_mk (ents := [(86, [e86 K]), (105, [e105 K])]) (bodies := []) (loops := []) order tiOk ⟨one_ent (e86_ok K), one_ent (e105_ok K), trivial⟩ trivial Tryz.func74 rfl lp74 trivial
noncomputable def implf74 (K : Nat) (x1 : (List Int)) (x2 : Int) : Option (Int) :=
  (ob (implf86 K x1) fun y1 => (bif y1 != (0 : Int) then some (y1) else (ob (implf105 K x2 ((0 : Int)) ((2000 : Int))) fun y2 => (bif !y2 then some ((1 : Int)) else some ((0 : Int))))))
theorem q74 (K : Nat) (x1 : (List Int)) (x2 : Int) : evFnK (α := Int) (L74_0 K) 3 74 Tryz.f74.results.toList (codeOf Tryz.f74) ins74 res74 (fun p => p.1) (x1, x2, ()) = implf74 K x1 x2 := by kernel_rfl
noncomputable def e74 (K : Nat) : Ent := ⟨ins74, res74, Int, fun x => implf74 K x.1 x.2.1, fun _ => (fun y => (y, (()))), false⟩
theorem e74_ok (K : Nat) : EntOk Tryz.prog 74 (e74 K) := entOk_k (ins := ins74) (rs := res74) (α := Int) (lib74_0 K) (d := 3) Tryz.func74 rfl (by kernel_rfl) (by kernel_rfl) (by kernel_rfl) (fun x => implf74 K x.1 x.2.1) (fun p => p.1) (fun y => (y, (()))) (fun _ => rfl) (fun x => q74 K x.1 x.2.1)

end Go.Proofs.YtbpjodikknbcoaaGreatDoor
