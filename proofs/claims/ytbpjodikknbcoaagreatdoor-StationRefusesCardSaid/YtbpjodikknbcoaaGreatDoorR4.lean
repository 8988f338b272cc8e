/- The book's text, written line by line into a strings.Builder. -/
import Derived.Test.YtbpjodikknbcoaaGreatDoorR3
import Derived.LoopTactic
set_option maxRecDepth 100000
set_option linter.unusedVariables false
set_option linter.unusedSimpArgs false
namespace Go.Proofs.YtbpjodikknbcoaaGreatDoor
open Go Go.Pv Go.Shelf Go.RowKit

theorem below_grown {w w' : World} (h : Below w.heap.size w w') : w.grownBy w' none := ⟨h.os, h.tape, h.output, h.size, fun k hk _ => h.block k hk⟩
theorem builder_kept {T e : TypeId} {B b : Nat} {bs : List Value} {w w' : World} (h : Lib.IsBuilder T e B b bs w) (hB : Below w.heap.size w w') : Lib.IsBuilder T e B b bs w' := by
  have key : ∀ p, Lib.BuilderAt T e B b p bs w → Lib.BuilderAt T e B b p bs w' := by
    rintro p ⟨h1, v, h2, h3, h4⟩
    have hlt : b < w.heap.size := by
      rcases Nat.lt_or_ge b w.heap.size with h | h
      · exact h
      · simp [Array.getElem?_eq_none h] at h2
    refine ⟨h1, v, (hB.block b hlt).trans h2, h3.kept (below_grown hB) ?_, h4⟩
    by_cases hn : v.ownBlock = none
    · exact .inl hn
    · exact .inr hn
  exact h.imp (key _) (key _)
theorem builderX : Builder.Extra Tryz.prog wsL_ren where
  toX72 := by constructor <;> kernel_rfl
  t5 := Tryz.underlying5
  a5 := Tryz.isAgg5
  z5 := Tryz.sizeOf5
  v5 := Tryz.zeroValue5
  infoByte := by kernel_rfl
  cellsByte := by kernel_rfl
  sizeByte := by kernel_rfl
  neB5 := by decide
theorem builderY : Builder.Extra Tryz.prog bsL_ren where
  toX72 := by constructor <;> kernel_rfl
  t5 := Tryz.underlying5
  a5 := Tryz.isAgg5
  z5 := Tryz.sizeOf5
  v5 := Tryz.zeroValue5
  infoByte := by kernel_rfl
  cellsByte := by kernel_rfl
  sizeByte := by kernel_rfl
  neB5 := by decide
theorem own_below {S : Nat → Prop} {w w' : World} (ho : Own S w []) (h : Below w.heap.size w w') : Own S w' [] := (ran_below ho h).own ho
theorem ran_grown {S S' : Nat → Prop} {w w' : World} (h : Ran S w [] S' w' []) : Below w.heap.size w w' := ⟨h.os, h.tape, h.output.1, h.size, fun k hk => h.same k hk (by simp)⟩
theorem texts_cell {S : Nat → Prop} {w : World} : ∀ {xs : List ByteArray} {ds : List Value}, RepRow (Rep S w .str) xs ds → ds = xs.map Value.string
  | [], ds, h => h
  | x :: xs, ds, ⟨c, r, e, h1, h2⟩ => by
    have h1 : c = [.string x] := h1
    rw [e, h1, texts_cell h2]
    rfl

set_option maxHeartbeats 4000000 in
theorem write_ent {line : Int → ByteArray → Option (ByteArray × Int)}
    (h66 : EntOk Tryz.prog 66 ⟨[(.dat (.int .i64), false), (.dat .str, false)], .cons (.dat .str) (.cons (.dat (.int .i64)) .un), ByteArray × Int, fun x => line x.1 x.2.1, fun _ y => ((y.1, y.2, ()), ()), false⟩) :
    EntOk Tryz.prog 67 ⟨[(.dat (.sl .str), false)], .dat .str, ByteArray, fun x => if (x.1 : List ByteArray).length ≤ 1099511627776 then writeR line 0 ByteArray.empty x.1 else none, fun _ y => (y, ()), false⟩ := by
  refine ⟨⟨_, _, Tryz.func67, rfl, by kernel_rfl⟩, ?_⟩
  rintro S w vs ⟨xs, u⟩ bs y ho ⟨v, r, b1, b2, rfl, rfl, ⟨hx, rfl⟩, rfl, rfl⟩ hy
  have hx2 : Rep S w (.sl .str) xs [v] := hx
  obtain ⟨A, cap, hv, hcap, hrow⟩ : ∃ A cap, [v] = [Value.slice A (List.length (xs : List ByteArray)) cap] ∧ (xs : List ByteArray).length ≤ cap ∧
      (0 < (xs : List ByteArray).length → ∃ b o ds, A = some ⟨b, o, none⟩ ∧ S b ∧ CellsAt w b o ds ∧ RepRow (Rep S w .str) (xs : List ByteArray) ds) := hx
  cases hv
  obtain ⟨zs, hzs⟩ : ∃ zs : List ByteArray, zs = xs := ⟨xs, rfl⟩
  have hyz : (if zs.length ≤ 1099511627776 then writeR line 0 ByteArray.empty zs else none) = some y := by rw [hzs]; exact hy
  have hlz : zs.length ≤ 1099511627776 := by
    by_cases h : zs.length ≤ 1099511627776
    · exact h
    · rw [if_neg h] at hyz; cases hyz
  rw [if_pos hlz] at hyz
  have hrow : 0 < zs.length → ∃ b o, A = some ⟨b, o, none⟩ ∧ S b ∧ ∀ (j : Nat) s, zs[j]? = some s → w.cell? ⟨b, o + j, none⟩ = some (.string s) := by
    intro h0
    obtain ⟨b, o, ds, e1, e2, e3, e4⟩ := hrow (by rw [← hzs]; exact h0)
    refine ⟨b, o, e1, e2, fun j s hs => e3 j _ ?_⟩
    rw [texts_cell e4, ← hzs, List.getElem?_map, hs]; rfl
  have hlen : (xs : List ByteArray).length = zs.length := by rw [hzs]
  rw [hlen]
  have ho : Own S w [] := ho
  have fin : ∀ w', Below w.heap.size w w' → ∃ S' b1 b2, Ran S w [] S' w' (b1 ++ b2) ∧ ShR S' w' (.dat .str) y (.string y) b1 ∧ ShX S' w' true (Fs.sh [(.dat (.sl .str), false)]) (xs, u) [Value.slice A zs.length cap] b2 := by
    intro w' hB
    have hx' : Rep S w' (.sl .str) xs [Value.slice A zs.length cap] := Rep.move (fun _ h => h) (fun k hk => hB.block k (ho.sb k hk)) (by rw [← hlen]; exact hx2)
    exact ⟨S, [], [], ran_below ho hB, ⟨rfl, rfl⟩, _, _, [], [], rfl, rfl, ⟨hx', rfl⟩, rfl, rfl⟩
  clear hx2 hcap
  clear hzs
  have call66 : ∀ (n : Int) (s : ByteArray) (z : ByteArray × Int) (W : World), Below w.heap.size w W → line n s = some z → Calls Tryz.prog 66 #[.int .i64 n, .string s] W fun e w' => e = .returned (.tuple #[.string z.1, .int .i64 z.2]) ∧ Below W.heap.size W w' := by
    intro n s z W hB hl
    refine (h66.2 S W [.int .i64 n, .string s] (n, s, ()) [] z (own_below ho hB) ⟨_, _, [], [], rfl, rfl, ⟨rfl, rfl⟩, _, _, [], [], rfl, rfl, ⟨rfl, rfl⟩, rfl, rfl⟩ hl).mono ?_
    intro e w' he
    cases e with
    | returned ev =>
      obtain ⟨S', c1, c2, hr, ⟨vs, rfl, v1, r1, d1, d2, rfl, rfl, ⟨h1, rfl⟩, v2, r2, d3, d4, rfl, rfl, ⟨h2, rfl⟩, rfl, rfl⟩, v3, r3, d5, d6, e5, rfl, ⟨h3, rfl⟩, v4, r4, d7, d8, rfl, rfl, ⟨h4, rfl⟩, rfl, rfl⟩ := he
      have h1 : [v1] = [Value.string z.1] := h1
      have h2 : [v2] = [Value.int .i64 z.2] := h2
      cases h1; cases h2
      exact ⟨rfl, ran_grown hr⟩
    | panicked c => exact he.elim
    | outgrown => exact he.elim
  go_enter Tryz.func67, Tryz.ntmps67
  go_wp2
  go_loopw [4, 11] (fun v i wr => ∃ (k : Nat) (n : Int) (l : List UInt8), k ≤ zs.length ∧ i = .int .i64 k ∧ v = .int .i64 n ∧ writeR line n ⟨l.toArray⟩ (zs.drop k) = some y ∧ Lib.IsBuilder 137 5 w.heap.size w.heap.size (Lib.byteCells l) wr ∧ Below w.heap.size w wr)
    (fun _ i _ => zs.length - (Lib.intOf i).toNat)
  case atStart => exact ⟨0, 0, [], Nat.zero_le _, rfl, rfl, hyz, Lib.fresh_isBuilder 137 5 w, (Below.refl _ _).alloc (Nat.le_refl _) _⟩
  case round =>
    obtain ⟨k, n, l, hk, rfl, rfl, hw, hb, hB⟩ := hrel
    by_cases hlt : k < zs.length
    · obtain ⟨s, hs⟩ : ∃ s, zs[k]? = some s := ⟨_, List.getElem?_eq_getElem hlt⟩
      obtain ⟨b, o, hA, hSb, hcell⟩ := hrow (by omega)
      subst hA
      have hd : zs.drop k = s :: zs.drop (k + 1) := by
        rw [List.drop_eq_getElem_cons hlt]
        rw [List.getElem?_eq_getElem hlt] at hs
        cases hs; rfl
      rw [hd] at hw
      have hw : (ob (line n s) fun y => if (⟨l.toArray⟩ : ByteArray).size + y.1.size ≤ 140737488355328 then writeR line y.2 (⟨l.toArray⟩ ++ y.1) (zs.drop (k + 1)) else none) = some y := hw
      cases hl : line n s with
      | none => rw [hl] at hw; cases hw
      | some z =>
        rw [hl] at hw
        have hw : (if (⟨l.toArray⟩ : ByteArray).size + z.1.size ≤ 140737488355328 then writeR line z.2 (⟨l.toArray⟩ ++ z.1) (zs.drop (k + 1)) else none) = some y := hw
        have hsz : (⟨l.toArray⟩ : ByteArray).size + z.1.size ≤ 140737488355328 := by
          by_cases h : (⟨l.toArray⟩ : ByteArray).size + z.1.size ≤ 140737488355328
          · exact h
          · rw [if_neg h] at hw; cases hw
        rw [if_pos hsz] at hw
        have hcs : wr.cell? ⟨b, o + k, none⟩ = some (.string s) := (hB.cell (p := ⟨b, o + k, none⟩) (ho.sb b hSb)).trans (hcell k s hs)
        have hlti : (k : Int) < (zs.length : Int) := by omega
        have c66 := call66 n s z wr hB hl
        have cws : ∀ w2, Below wr.heap.size wr w2 → Calls Tryz.prog 97 #[.pointer (some ⟨w.heap.size, 0, none⟩), .string z.1] w2 fun e w' => e = .returned (.tuple #[.int .i64 z.1.size, .nilIface]) ∧ Lib.IsBuilder 137 5 w.heap.size w.heap.size (Lib.byteCells (l ++ z.1.data.toList)) w' ∧ Below w.heap.size w2 w' := by
          intro w2 hB2
          have hl1 : (Lib.byteCells l).length = (⟨l.toArray⟩ : ByteArray).size := by rw [Lib.byteCells_length]; rfl
          refine (Any.Builder_WriteString wsL builderX w.heap.size w.heap.size (Lib.byteCells l) z.1 _ (builder_kept hb hB2) (by rw [hl1]; exact hsz) (Nat.le_trans hB.size hB2.size)).mono ?_
          rintro e w' ⟨rfl, h1, h2⟩
          refine ⟨rfl, ?_, h2⟩
          rw [Lib.byteCells_append, ← Lib.strCells_eq]
          exact .inr h1
        go_wp2_with (first | (go_at_call 66; refine c66.mono ?_; rintro e w2 ⟨rfl, hB2⟩) | (go_at_call 97; refine (cws _ hB2).mono ?_; rintro e w3 ⟨rfl, hb3, hB3⟩))
        have hwk : wrap64 ((k : Int) + 1) = (k : Int) + 1 := by unfold wrap64; omega
        go_roundw
        case rel =>
          have hB' : Below w.heap.size w w3 := (hB.trans (hB2.mono hB.size)).trans hB3
          have hw' : writeR line z.2 ⟨(l ++ z.1.data.toList).toArray⟩ (zs.drop (k + 1)) = some y := by
            rw [← hw]; congr 1
          have R : k + 1 ≤ zs.length ∧ Value.int .i64 ((k : Int) + 1) = .int .i64 ((k + 1 : Nat) : Int) ∧ Value.int .i64 z.2 = .int .i64 z.2 ∧ writeR line z.2 ⟨(l ++ z.1.data.toList).toArray⟩ (zs.drop (k + 1)) = some y ∧ Lib.IsBuilder 137 5 w.heap.size w.heap.size (Lib.byteCells (l ++ z.1.data.toList)) w3 ∧ Below w.heap.size w w3 :=
            ⟨hlt, by simp, rfl, hw', hb3, hB'⟩
          first
            | exact ⟨k + 1, z.2, l ++ z.1.data.toList, R⟩
            | ((repeat apply Exists.intro); exact ⟨⟨k + 1, z.2, l ++ z.1.data.toList, R⟩, rfl⟩)
            | trace_state
        case measure => simp [Lib.intOf, hwk]; omega
    · have hke : k = zs.length := by omega
      subst hke
      have hw : some (⟨l.toArray⟩ : ByteArray) = some y := by rw [List.drop_length] at hw; exact hw
      cases hw
      have hlti : ¬ (zs.length : Int) < (zs.length : Int) := by omega
      have csl := Any.Builder_String_any bsL builderY w.heap.size w.heap.size l wr hb hB.size
      go_wp2_with (go_at_call 98; refine csl.mono ?_; rintro e w3 ⟨rfl, hB3⟩)
      go_ret
      exact fin _ (hB.trans hB3)
end Go.Proofs.YtbpjodikknbcoaaGreatDoor
