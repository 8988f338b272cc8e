/- The library's functions as contracts: texts cut, numbers written and read. -/
import Derived.Test.YtbpjodikknbcoaaGreatDoorR1
import Derived.Lib.CutLaws
import Derived.Lib.Index
import Derived.Lib.ItoaNum
import Derived.Lib.AtoiAll
set_option maxRecDepth 100000
set_option linter.unusedVariables false
set_option linter.unusedSimpArgs false
namespace Go.Pv
open Go Go.RowKit
/-- What strconv.Atoi gives: the number, and 0 or -1 for no error and some error. -/
def atoiR (l : List UInt8) : Int × Int :=
  match Lib.atoiAll l with
  | .ok v => (v, 0)
  | .range => (Lib.atoiSat l, -1)
  | _ => (0, -1)
/-- What a Builder holds that is written line by line. -/
noncomputable def writeR (line : Int → ByteArray → Option (ByteArray × Int)) : Int → ByteArray → List ByteArray → Option ByteArray
  | _, b, [] => some b
  | n, b, s :: r => ob (line n s) fun y => if b.size + y.1.size ≤ 140737488355328 then writeR line y.2 (b ++ y.1) r else none

theorem ran_below {S : Nat → Prop} {w w' : World} {bs : List Nat} (ho : Own S w bs) (h : Below w.heap.size w w') : Ran S w bs S w' bs :=
  ⟨h.os, h.tape, ⟨h.output, Nat.le_refl _⟩, h.size, fun b hb _ => h.block b hb, fun _ h => h, fun _ h => .inl h, fun _ h => .inl h,
   fun b hb => ⟨Nat.lt_of_lt_of_le (ho.old b hb).1 h.size, (ho.old b hb).2⟩, ho.nd, fun b hb => Nat.lt_of_lt_of_le (ho.sb b hb) h.size⟩
theorem below_drewN (B : Nat) (w : World) (n : Nat) : Below B w (w.drewN n) := ⟨rfl, rfl, rfl, Nat.le_refl _, fun _ _ => rfl⟩
theorem below_grow (w : World) (n : Nat) (os : Array Obj) : Below w.heap.size w (Go.Sort.grow (w.drewN n) os) :=
  ⟨rfl, rfl, rfl, by simp [Go.Sort.grow, World.drewN], fun k hk => by
    show (w.heap ++ os)[k]? = w.heap[k]?
    rw [Array.getElem?_append_left hk]⟩
end Go.Pv
namespace Go.Proofs.YtbpjodikknbcoaaGreatDoor
open Go Go.Pv Go.Shelf Go.RowKit

theorem grown_bytes (w : World) (e : TypeId) (s : ByteArray) (row : Option Nat) : w.grownBy (Lib.bytesWorld w e s) row :=
  ⟨rfl, rfl, rfl, by rw [Lib.bytesWorld_size]; omega, fun k hk _ => Lib.bytesWorld_at_old w e s k hk⟩
theorem gl_cell {S : Nat → Prop} {w : World} (h : Gl S w) (q : Nat × (List Value → Prop)) (hq : q ∈ glob) : ∃ cs ty fr, w.heap[q.1]? = some (.cells cs ty fr) ∧ q.2 cs.toList := (h q hq).2
theorem gl_max {S : Nat → Prop} {w : World} (h : Gl S w) : ∃ m : Int, w.cell? ⟨1, 0, none⟩ = some (.int .i64 m) := by
  obtain ⟨cs, ty, fr, h1, m, h2⟩ := gl_cell h (1, fun cs => ∃ m : Int, cs = [.int .i64 m]) (by simp [glob])
  have h2 : cs = #[.int .i64 m] := by apply Array.ext'; exact h2
  subst h2
  exact ⟨m, by simp [World.cell?, h1]⟩
theorem gl_tab {S : Nat → Prop} {w : World} (h : Gl S w) : Lib.TabIs Tryz.prog w "internal/strconv.uint64pow10" .u64 Lib.pow10Tab := by
  obtain ⟨cs, ty, fr, h1, h2⟩ := gl_cell h (2, fun cs => cs = (List.range 20).map fun k => .int .u64 (10 ^ k : Nat)) (by simp [glob])
  have hg : Tryz.prog.globalNamed "internal/strconv.uint64pow10" = some 2 := by kernel_rfl
  unfold Lib.TabIs World.var?
  rw [hg]
  show (match w.heap[2]? with | some (.cells cs _ _) => some cs | _ => none) = _
  rw [h1]
  show some cs = _
  congr 1
  apply Array.ext'
  rw [h2]
  simp [Lib.pow10Tab]
theorem gl_syntax {S : Nat → Prop} {w : World} (h : Gl S w) : ∃ t p, w.var? Tryz.prog "strconv.ErrSyntax" = some #[.iface t p] := by
  obtain ⟨cs, ty, fr, h1, t, p, h2⟩ := gl_cell h (3, fun cs => ∃ t p, cs = [.iface t p]) (by simp [glob])
  have hg : Tryz.prog.globalNamed "strconv.ErrSyntax" = some 3 := by kernel_rfl
  refine ⟨t, p, ?_⟩
  unfold World.var?
  rw [hg]
  show (match w.heap[3]? with | some (.cells cs _ _) => some cs | _ => none) = _
  rw [h1]
  show some cs = _
  congr 1
  apply Array.ext'
  exact h2
theorem gl_range {S : Nat → Prop} {w : World} (h : Gl S w) : ∃ t p, w.var? Tryz.prog "strconv.ErrRange" = some #[.iface t p] := by
  obtain ⟨cs, ty, fr, h1, t, p, h2⟩ := gl_cell h (4, fun cs => ∃ t p, cs = [.iface t p]) (by simp [glob])
  have hg : Tryz.prog.globalNamed "strconv.ErrRange" = some 4 := by kernel_rfl
  refine ⟨t, p, ?_⟩
  unfold World.var?
  rw [hg]
  show (match w.heap[4]? with | some (.cells cs _ _) => some cs | _ => none) = _
  rw [h1]
  show some cs = _
  congr 1
  apply Array.ext'
  exact h2
theorem gl_rtype {S : Nat → Prop} {w : World} (h : Gl S w) : w.cell? ⟨0, 0, none⟩ = some (.iface 197 (.agg #[.pointer (some ⟨7, 112, none⟩)])) := by
  obtain ⟨cs, ty, fr, h1, h2⟩ := gl_cell h (0, fun cs => cs = [.iface 197 (.agg #[.pointer (some ⟨7, 112, none⟩)])]) (by simp [glob])
  have h2 : cs = #[.iface 197 (.agg #[.pointer (some ⟨7, 112, none⟩)])] := by apply Array.ext'; exact h2
  subst h2
  simp [World.cell?, h1]

theorem ob_if {α : Type} {c : Prop} [Decidable c] {a y : α} (h : (if c then some a else none) = some y) : c ∧ a = y := by
  by_cases hc : c
  · rw [if_pos hc] at h; exact ⟨hc, Option.some.inj h⟩
  · rw [if_neg hc] at h; cases h

theorem itoa_ent : EntOk Tryz.prog 85 ⟨[(.dat (.int .i64), false)], .dat .str, ByteArray, fun x => if -9223372036854775808 ≤ (x.1 : Int) ∧ (x.1 : Int) ≤ 9223372036854775807 then some ⟨(Lib.itoa x.1).toArray⟩ else none, fun _ => (fun y => (y, ())), false⟩ := by
  refine ⟨⟨_, _, Tryz.func85, rfl, by kernel_rfl⟩, ?_⟩
  rintro S w vs ⟨x1, u⟩ bs y ho ⟨v, r, b1, b2, rfl, rfl, ⟨h1, rfl⟩, rfl, rfl⟩ hy
  have h1 : [v] = [Value.int .i64 x1] := h1
  cases h1
  obtain ⟨hc, rfl⟩ := ob_if hy
  refine (Any.strconv_Itoa itoaL x1 hc.1 hc.2 w (gl_tab ho.gl)).mono ?_
  rintro e w' ⟨rfl, k, os, rfl⟩
  exact ⟨S, [], [], ran_below ho (below_grow w k os), ⟨rfl, rfl⟩, _, _, [], [], rfl, rfl, ⟨rfl, rfl⟩, rfl, rfl⟩

theorem cut_ent : EntOk Tryz.prog 64 ⟨[(.dat .str, false), (.dat .str, false)], .cons (.dat .str) (.cons (.dat .str) (.cons (.dat .bool) .un)), ByteArray × ByteArray × Bool,
    fun x => if (x.1 : ByteArray).size < 4294967281 then some (⟨(Lib.cut (x.1 : ByteArray).data.toList (x.2.1 : ByteArray).data.toList).1.toArray⟩, ⟨(Lib.cut (x.1 : ByteArray).data.toList (x.2.1 : ByteArray).data.toList).2.1.toArray⟩, (Lib.cut (x.1 : ByteArray).data.toList (x.2.1 : ByteArray).data.toList).2.2) else none,
    fun _ => (fun y => ((y.1, y.2.1, y.2.2, ()), ())), false⟩ := by
  refine ⟨⟨_, _, Tryz.func64, rfl, by kernel_rfl⟩, ?_⟩
  rintro S w vs ⟨x1, x2, u⟩ bs y ho ⟨v, r, b1, b2, rfl, rfl, ⟨h1, rfl⟩, v2, r2, b3, b4, rfl, rfl, ⟨h2, rfl⟩, rfl, rfl⟩ hy
  have h1 : [v] = [Value.string x1] := h1
  have h2 : [v2] = [Value.string x2] := h2
  cases h1
  cases h2
  obtain ⟨hc, rfl⟩ := ob_if hy
  obtain ⟨m, hm⟩ := gl_max ho.gl
  refine (Any.strings_Cut cutL x1 x2 m w hc hm).mono ?_
  rintro e w' ⟨rfl, n, rfl⟩
  exact ⟨S, [], [], ran_below ho (below_drewN _ w n), ⟨_, rfl, _, _, [], [], rfl, rfl, ⟨rfl, rfl⟩, _, _, [], [], rfl, rfl, ⟨rfl, rfl⟩, _, _, [], [], rfl, rfl, ⟨rfl, rfl⟩, rfl, rfl⟩, _, _, [], [], rfl, rfl, ⟨rfl, rfl⟩, _, _, [], [], rfl, rfl, ⟨rfl, rfl⟩, rfl, rfl⟩

theorem contains_ent : EntOk Tryz.prog 96 ⟨[(.dat .str, false), (.dat .str, false)], .dat .bool, Bool,
    fun x => if (x.1 : ByteArray).size < 4294967281 then (match (x.2.1 : ByteArray).data.toList with | [c] => some (decide (0 ≤ Lib.indexByte (x.1 : ByteArray).data.toList c)) | _ => none) else none, fun _ => (fun y => (y, ())), false⟩ := by
  refine ⟨⟨_, _, Tryz.func96, rfl, by kernel_rfl⟩, ?_⟩
  rintro S w vs ⟨x1, x2, u⟩ bs y ho ⟨v, r, b1, b2, rfl, rfl, ⟨h1, rfl⟩, v2, r2, b3, b4, rfl, rfl, ⟨h2, rfl⟩, rfl, rfl⟩ hy
  have h1 : [v] = [Value.string x1] := h1
  have h2 : [v2] = [Value.string x2] := h2
  cases h1
  cases h2
  have hy : (if (x1 : ByteArray).size < 4294967281 then (match (x2 : ByteArray).data.toList with | [c] => some (decide (0 ≤ Lib.indexByte (x1 : ByteArray).data.toList c)) | _ => none) else none) = some y := hy
  split at hy
  · obtain ⟨⟨x2⟩⟩ := x2
    match x2, hy with
    | [c], hy =>
      have hy : some (decide (0 ≤ Lib.indexByte (x1 : ByteArray).data.toList c)) = some y := hy
      cases hy
      refine (Any.strings_Contains_one containsL x1 c w).mono ?_
      rintro e w' ⟨rfl, rfl⟩
      exact ⟨S, [], [], ho.refl, ⟨rfl, rfl⟩, _, _, [], [], rfl, rfl, ⟨rfl, rfl⟩, _, _, [], [], rfl, rfl, ⟨rfl, rfl⟩, rfl, rfl⟩
    | [], hy => cases hy
    | _ :: _ :: _, hy => cases hy
  · cases hy

theorem atoi_ent : EntOk Tryz.prog 136 ⟨[(.dat .str, false)], .cons (.dat (.int .i64)) (.cons (.dat .err) .un), Int × Int, fun x => if (x.1 : ByteArray).size ≤ 1000000 then some (atoiR (x.1 : ByteArray).data.toList) else none,
    fun _ => (fun y => ((y.1, y.2, ()), ())), false⟩ := by
  refine ⟨⟨_, _, Tryz.func136, rfl, by kernel_rfl⟩, ?_⟩
  rintro S w vs ⟨x1, u⟩ bs y ho ⟨v, r, b1, b2, rfl, rfl, ⟨h1, rfl⟩, rfl, rfl⟩ hy
  have h1 : [v] = [Value.string x1] := h1
  cases h1
  obtain ⟨hc, rfl⟩ := ob_if hy
  have hc : (x1 : ByteArray).size ≤ 1000000 := hc
  have fin : ∀ (n m : Int) (ev : Value) (w' : World), atoiR (x1 : ByteArray).data.toList = (n, m) → Rep S w' .err m [ev] → Below w.heap.size w w' →
      ∃ S' b1 b2, Ran S w [] S' w' (b1 ++ b2) ∧ ShR S' w' (.cons (.dat (.int .i64)) (.cons (.dat .err) .un)) ((atoiR (x1 : ByteArray).data.toList).1, (atoiR (x1 : ByteArray).data.toList).2, ()) (.tuple #[.int .i64 n, ev]) b1 ∧
        ShX S' w' true (Fs.sh [(.dat .str, false)]) (x1, u) [Value.string x1] b2 := by
    intro n m ev w' e hr hb
    rw [e]
    exact ⟨S, [], [], ran_below ho hb, ⟨_, rfl, _, _, [], [], rfl, rfl, ⟨rfl, rfl⟩, _, _, [], [], rfl, rfl, ⟨hr, rfl⟩, rfl, rfl⟩, _, _, [], [], rfl, rfl, ⟨rfl, rfl⟩, rfl, rfl⟩
  rcases h : Lib.atoiAll (x1 : ByteArray).data.toList with n | _ | _
  · refine (Any.strconv_Atoi_ok atoiL x1 (by omega) n h w).mono ?_
    rintro e w' ⟨rfl, hw⟩
    refine fin n 0 .nilIface w' (by simp [atoiR, h]) (.inl ⟨rfl, rfl⟩) ?_
    rcases hw with rfl | ⟨t, rfl⟩
    · exact Below.refl _ _
    · exact (Below.refl _ _).grown (row := none) (grown_bytes _ _ _ _) (Nat.le_refl _) (fun _ h => by cases h)
  · obtain ⟨t, p, hv⟩ := gl_syntax ho.gl
    refine (Any.strconv_Atoi_syntax_var atoiL x1 (by omega) h t p w hv).mono ?_
    rintro e w' ⟨N, rfl, -, -, hb⟩
    exact fin 0 (-1) _ w' (by simp [atoiR, h]) (.inr (.inr ⟨by decide, _, _, rfl⟩)) hb
  · obtain ⟨t, p, hv⟩ := gl_range ho.gl
    refine (Any.strconv_Atoi_range_var atoiL x1 (by omega) h t p w hv).mono ?_
    rintro e w' ⟨N, rfl, -, -, hb⟩
    exact fin (Lib.atoiSat (x1 : ByteArray).data.toList) (-1) _ w' (by simp [atoiR, h]) (.inr (.inr ⟨by decide, _, _, rfl⟩)) hb
end Go.Proofs.YtbpjodikknbcoaaGreatDoor
