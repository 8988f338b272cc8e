/- A pure reading of the model's code, and that the run does what it says: part h. -/
import Derived.Test.YthdmngalhppkcaaPg
import Derived.Shelf.SortG.Plain
import Derived.Shelf.SortG.SortNone
import Derived.Shelf.SlSortCmp.NoneTotal
import Derived.Shelf.SlicesE.Compact
import Derived.Maps.RangeRun
/- Rows of the reading, and the library's words for rows of a sort. -/
set_option linter.unusedVariables false
set_option linter.unusedSimpArgs false
set_option linter.unusedSectionVars false
namespace Go.Pv
open Go.Sort Go.Shelf Go.Proofs

/-! ### The cells of flat data -/
def Ty.cells : (t : Ty) → t.den → List Value
  | .int k, x => [.int k x]
  | .bool, x => [.bool x]
  | .str, x => [.string x]
  | .pr a b, x => a.cells x.1 ++ b.cells x.2
  | .arr _ e, xs => (List.map (fun x => e.cells x) xs).flatten
  | .sl _, _ => []
  | .un, _ => []
  | .err, _ => []
  | .np, _ => []

def Ty.plain : Ty → Bool
  | .int _ | .bool | .str => true
  | .pr a b => a.plain && b.plain
  | _ => false

theorem Ty.cells_iff {S : Nat → Prop} {w : World} : ∀ {t : Ty} {x : t.den} {cs : List Value}, t.plain = true → (Rep S w t x cs ↔ cs = t.cells x)
  | .int _, x, cs, _ => Iff.rfl
  | .bool, x, cs, _ => Iff.rfl
  | .str, x, cs, _ => Iff.rfl
  | .pr a b, x, cs, h => by
    obtain ⟨ha, hb⟩ := Bool.and_eq_true _ _ ▸ (show (a.plain && b.plain) = true from h)
    constructor
    · rintro ⟨c, r, e, h1, h2⟩
      rw [e, (Ty.cells_iff ha).1 h1, (Ty.cells_iff hb).1 h2]; rfl
    · intro e
      exact ⟨_, _, e, (Ty.cells_iff ha).2 rfl, (Ty.cells_iff hb).2 rfl⟩
  | .un, x, cs, h => by cases h
  | .err, x, cs, h => by cases h
  | .np, x, cs, h => by cases h
  | .arr _ _, x, cs, h => by cases h
  | .sl _, x, cs, h => by cases h
theorem Ty.cells_len : ∀ {t : Ty} {x : t.den}, t.plain = true → (t.cells x).length = t.size
  | .int _, x, _ => rfl
  | .bool, x, _ => rfl
  | .str, x, _ => rfl
  | .pr a b, x, h => by
    obtain ⟨ha, hb⟩ := Bool.and_eq_true _ _ ▸ (show (a.plain && b.plain) = true from h)
    show (a.cells x.1 ++ b.cells x.2).length = a.size + b.size
    rw [List.length_append, Ty.cells_len ha, Ty.cells_len hb]
  | .un, x, h => by cases h
  | .err, x, h => by cases h
  | .np, x, h => by cases h
  | .arr _ _, x, h => by cases h
  | .sl _, x, h => by cases h
theorem Ty.cells_one : ∀ {t : Ty} {x : t.den}, t.plain = true → ∀ v ∈ t.cells x, v.oneCell' = true
  | .int _, x, _ => by intro v hv; simp only [Ty.cells, List.mem_singleton] at hv; subst hv; rfl
  | .bool, x, _ => by intro v hv; simp only [Ty.cells, List.mem_singleton] at hv; subst hv; rfl
  | .str, x, _ => by intro v hv; simp only [Ty.cells, List.mem_singleton] at hv; subst hv; rfl
  | .pr a b, x, h => by
    obtain ⟨ha, hb⟩ := Bool.and_eq_true _ _ ▸ (show (a.plain && b.plain) = true from h)
    intro v hv
    rcases List.mem_append.1 (show v ∈ a.cells x.1 ++ b.cells x.2 from hv) with h | h
    · exact Ty.cells_one ha v h
    · exact Ty.cells_one hb v h
  | .un, x, h => by cases h
  | .err, x, h => by cases h
  | .np, x, h => by cases h
  | .arr _ _, x, h => by cases h
  | .sl _, x, h => by cases h

section
variable {α : Type} [Inhabited α] {enc : α → List Value} {k : Nat}

theorem rr_flat : ∀ (xs : List α), RepRow (fun x c => c = enc x) xs (xs.map enc).flatten
  | [] => rfl
  | x :: xs => ⟨enc x, _, by simp, rfl, rr_flat xs⟩
theorem rr_eq : ∀ {xs : List α} {cs : List Value}, RepRow (fun x c => c = enc x) xs cs → cs = (xs.map enc).flatten
  | [], _, h => h
  | x :: xs, cs, ⟨c, r, e, h1, h2⟩ => by rw [e, h1, rr_eq h2]; simp
theorem flat_get (hk : ∀ x, (enc x).length = k) (xs : List α) (t : Nat) (ht : t < xs.length * k) : (xs.map enc).flatten[t]? = (enc (xs.getD (t / k) default))[t % k]? := by
  have k0 : 0 < k := by
    rcases Nat.eq_zero_or_pos k with h | h
    · subst h; simp at ht
    · exact h
  have hd : t / k < xs.length := Nat.div_lt_of_lt_mul (by rwa [Nat.mul_comm] at ht)
  have h := RepRow.get (R := fun x c => c = enc x) (n := k) (fun x c h => by rw [h, hk]) default (t / k) (rr_flat xs) hd
  have e : (((xs.map enc).flatten.drop (t / k * k)).take k)[t % k]? = (enc (xs.getD (t / k) default))[t % k]? := by rw [h]
  rw [List.getElem?_take, if_pos (Nat.mod_lt _ k0), List.getElem?_drop] at e
  rwa [show t / k * k + t % k = t by rw [Nat.mul_comm]; exact Nat.div_add_mod t k] at e
theorem getD_bang (xs : List α) (i : Nat) : xs.toArray[i]! = xs.getD i default := by
  simp [List.getD_eq_getElem?_getD]
theorem flatK_list (hk : ∀ x, (enc x).length = k) (xs : List α) : (flatK enc k xs.toArray).toList = (xs.map enc).flatten := by
  have hl : (xs.map enc).flatten.length = xs.length * k := RepRow.length (R := fun x c => c = enc x) (fun x c h => by rw [h, hk]) (rr_flat xs)
  refine List.ext_getElem? fun t => ?_
  by_cases ht : t < xs.length * k
  · have k0 : 0 < k := by
      rcases Nat.eq_zero_or_pos k with h | h
      · subst h; simp at ht
      · exact h
    rw [flat_get hk xs t ht, Array.getElem?_toList]
    have h1 : t < (flatK enc k xs.toArray).size := by simpa using ht
    have h2 := get_flatK enc k xs.toArray t (by simpa using ht)
    rw [getElem!_pos _ t h1] at h2
    rw [Array.getElem?_eq_getElem h1, h2, getD_bang]
    have h3 : t % k < (enc (xs.getD (t / k) default)).length := by rw [hk]; exact Nat.mod_lt _ k0
    rw [List.getElem?_eq_getElem h3, getElem!_pos (enc (xs.getD (t / k) default)) (t % k) h3]
  · rw [List.getElem?_eq_none (by simp; omega), List.getElem?_eq_none (by omega)]
end

/-! ### Rows -/
/-- Where a row's cells are. -/
theorem RowAt.cells {S : Nat → Prop} {w : World} {p : At} {e : Ty} {xs : List e.den} (h : RowAt S w p e xs) (hnl : p.nl = false) : ∃ (cs : List Value) (ty : TypeId), w.heap[p.b]? = some (.cells cs.toArray ty (0, 0)) ∧ p.n = xs.length ∧ xs.length ≤ p.cap ∧ p.cap ≤ maxLen ∧ p.o + p.cap * e.size ≤ cs.length ∧
    RepRow (Rep S w e) xs ((cs.drop p.o).take (xs.length * e.size)) := by
  obtain ⟨hn, h⟩ := h
  rcases h with ⟨h1, _⟩ | ⟨_, cs, ty, h1, h2, h3, h4, h5⟩
  · rw [hnl] at h1; cases h1
  · exact ⟨cs, ty, h1, hn, h2, h3, h4, h5⟩

theorem holds_id {w : World} {b o : Nat} {cs : List Value} {ty : TypeId} {F : Array Value} (h : w.heap[b]? = some (.cells cs.toArray ty (0, 0))) (hF : F.toList = (cs.drop o).take F.size) (hl : o + F.size ≤ cs.length) : Holds id w b o F := by
  intro j hj
  refine ⟨?_, by simp [World.frozen?, h]⟩
  have : F.toList[j]? = ((cs.drop o).take F.size)[j]? := by rw [← hF]
  rw [List.getElem?_take, if_pos hj, List.getElem?_drop, Array.getElem?_toList, Array.getElem?_eq_getElem hj] at this
  simp [World.cell?, h, ← this, getElem!_pos F j hj]

/-- The row behind the sort. -/
theorem rowAt_put {S : Nat → Prop} {w : World} {p : At} {e : Ty} {xs ys : List e.den} {F : Array Value} {n : Nat} {os : Array Obj} (h : RowAt S w p e xs) (hnl : p.nl = false) (hy : ys.length = xs.length) (hFs : F.size = ys.length * e.size)
    (hS : ∀ b, S b → b < w.heap.size ∧ b ≠ p.b) (hF : ∀ w', RepRow (Rep S w' e) ys F.toList) : RowAt S (grow (putRow id (Sort.ahead w n) p.b p.o F) os) p e ys ∧ w.grownBy (grow (putRow id (Sort.ahead w n) p.b p.o F) os) (some p.b) ∧ w.drawn ≤ (grow (putRow id (Sort.ahead w n) p.b p.o F) os).drawn := by
  obtain ⟨cs, ty, h1, hn, h2, h3, h4, h5⟩ := h.cells hnl
  have hlt : p.b < w.heap.size := (Array.getElem?_eq_some_iff.1 h1).1
  have hold : ∀ k, k < w.heap.size → k ≠ p.b → (grow (putRow id (Sort.ahead w n) p.b p.o F) os).heap[k]? = w.heap[k]? := by
    intro k hk hne
    rw [heap_grow_old _ _ (by simpa [putRow, mapBlock, Sort.ahead] using hk)]
    simp [putRow, mapBlock, Sort.ahead, Array.getElem?_modify, Ne.symm hne]
  have hnew : (grow (putRow id (Sort.ahead w n) p.b p.o F) os).heap[p.b]? = some (.cells (putCells id p.o F cs.toArray) ty (0, 0)) := by
    rw [heap_grow_old _ _ (by simpa [putRow, mapBlock, Sort.ahead] using hlt)]
    simp [putRow, mapBlock, Sort.ahead, Array.getElem?_modify, h1, onCells]
  have hcap : xs.length * e.size ≤ p.cap * e.size := Nat.mul_le_mul_right _ h2
  refine ⟨⟨by rw [hn, hy], .inr ⟨hnl, (putCells id p.o F cs.toArray).toList, ty, by rw [hnew], by omega, h3, by simp [putCells]; omega, ?_⟩⟩, ⟨rfl, rfl, rfl, by simp [grow, putRow, mapBlock, Sort.ahead], fun k hk hne => hold k hk (fun e => hne (by rw [e]))⟩, Nat.le_add_right _ _⟩
  have hl : ((putCells id p.o F cs.toArray).toList.drop p.o).take (ys.length * e.size) = F.toList := by
    refine List.ext_getElem? fun t => ?_
    rw [List.getElem?_take]
    by_cases ht : t < ys.length * e.size
    · rw [if_pos ht, List.getElem?_drop, Array.getElem?_toList, Array.getElem?_toList, Array.getElem?_eq_getElem (by omega : t < F.size)]
      have h6 : p.o + t < cs.length := by rw [hy] at ht; omega
      simp only [putCells, Array.getElem?_mapIdx, List.getElem?_toArray, List.getElem?_eq_getElem h6, Option.map_some]
      rw [if_pos ⟨by omega, by omega⟩, show p.o + t - p.o = t by omega, getElem!_pos F t (by omega)]
      rfl
    · rw [if_neg ht, Array.getElem?_toList, Array.getElem?_eq_none (by omega)]
  rw [hl]
  exact hF _

theorem ran_row {S : Nat → Prop} {w w' : World} {b : Nat} {bs : List Nat} (ho : Own S w bs) (hb : b ∈ bs) (hg : w.grownBy w' (some b) ∧ w.drawn ≤ w'.drawn) : Ran S w bs S w' bs :=
  ⟨hg.1.os, hg.1.tape, ⟨hg.1.output, hg.2⟩, hg.1.size, fun k hk hn => hg.1.block k hk (fun e => hn (by cases e; exact hb)), fun _ h => h, fun _ h => .inl h, fun _ h => .inl h, fun k hk => ⟨Nat.lt_of_lt_of_le (ho.old k hk).1 hg.1.size, (ho.old k hk).2⟩, ho.nd, fun k hk => Nat.lt_of_lt_of_le (ho.sb k hk) hg.1.size⟩

/-! ### Insertion sort is the sort -/
def insL {α : Type} (le : α → α → Bool) (x : α) : List α → List α
  | [] => [x]
  | y :: r => if le x y then x :: y :: r else y :: insL le x r
def isort {α : Type} (le : α → α → Bool) : List α → List α
  | [] => []
  | x :: r => insL le x (isort le r)

section
variable {α : Type} {le : α → α → Bool}
theorem insL_perm (x : α) : ∀ l : List α, (insL le x l).Perm (x :: l)
  | [] => .refl _
  | y :: r => by
    rw [insL]
    split
    · exact .refl _
    · exact ((insL_perm x r).cons y).trans (List.Perm.swap x y r)
theorem isort_perm : ∀ l : List α, (isort le l).Perm l
  | [] => .refl _
  | x :: r => (insL_perm x _).trans ((isort_perm r).cons x)
theorem insL_sorted (htr : ∀ a b c, le a b = true → le b c = true → le a c = true) (hto : ∀ a b, le a b = true ∨ le b a = true) (x : α) : ∀ l : List α, l.Pairwise (fun a b => le a b = true) → (insL le x l).Pairwise (fun a b => le a b = true)
  | [], _ => by simp [insL]
  | y :: r, h => by
    obtain ⟨h1, h2⟩ := List.pairwise_cons.1 h
    rw [insL]
    split
    · rename_i hxy
      refine List.pairwise_cons.2 ⟨fun z hz => ?_, h⟩
      rcases List.mem_cons.1 hz with rfl | hz
      · exact hxy
      · exact htr _ _ _ hxy (h1 z hz)
    · rename_i hxy
      refine List.pairwise_cons.2 ⟨fun z hz => ?_, insL_sorted htr hto x r h2⟩
      rcases List.mem_cons.1 ((insL_perm x r).mem_iff.1 hz) with rfl | hz
      · exact (hto _ _).resolve_left hxy
      · exact h1 z hz
theorem isort_sorted (htr : ∀ a b c, le a b = true → le b c = true → le a c = true) (hto : ∀ a b, le a b = true ∨ le b a = true) : ∀ l : List α, (isort le l).Pairwise (fun a b => le a b = true)
  | [] => .nil
  | x :: r => insL_sorted htr hto x _ (isort_sorted htr hto r)
theorem sorted_unique' (han : ∀ a b, le a b = true → le b a = true → a = b) : ∀ {l m : List α}, l.Perm m → l.Pairwise (fun a b => le a b = true) → m.Pairwise (fun a b => le a b = true) → l = m
  | [], m, h, _, _ => by rw [List.nil_perm.1 h]
  | x :: l, [], h, _, _ => absurd h.length_eq (by simp)
  | x :: l, y :: m, h, hl, hm => by
    obtain ⟨l1, l2⟩ := List.pairwise_cons.1 hl
    obtain ⟨m1, m2⟩ := List.pairwise_cons.1 hm
    have hxy : x = y := by
      have hx : x ∈ y :: m := h.mem_iff.1 (by simp)
      have hy : y ∈ x :: l := h.mem_iff.2 (by simp)
      rcases List.mem_cons.1 hx with e | hx
      · exact e
      · rcases List.mem_cons.1 hy with e | hy
        · exact e.symm
        · exact han _ _ (l1 y hy) (m1 x hx)
    subst hxy
    rw [sorted_unique' han (List.perm_cons x |>.1 h) l2 m2]
theorem isort_merge (htr : ∀ a b c, le a b = true → le b c = true → le a c = true) (hto : ∀ a b, le a b = true ∨ le b a = true) (han : ∀ a b, le a b = true → le b a = true → a = b) (l : List α) : l.mergeSort le = isort le l :=
  sorted_unique' han ((List.mergeSort_perm l le).trans (isort_perm l).symm) (List.pairwise_mergeSort htr (fun a b => by simpa using hto a b) l) (isort_sorted htr hto l)
end

/-! ### The library's functions as entries -/
section
variable {P : Program} {ρ : Ren}

/-- A row that was given back. -/
theorem row_ent {S : Nat → Prop} {w w' : World} {p : At} {e : Ty} {ys : List e.den} {bs : List Nat} (ho : Own S w bs) (e2 : bs = cond p.nl [] [p.b]) (hnl : p.nl = false) (hr : RowAt S w' p e ys) (hg : w.grownBy w' (some p.b) ∧ w.drawn ≤ w'.drawn) {r : Fs} {z : (Fs.ty r).den} {vr : List Value} (hrest : ShX S w' true (Fs.sh r) z vr []) :
    Ran S w bs S w' ([] ++ bs) ∧ ShX S w' true (Fs.sh ((.own e, true) :: r)) (ys, z) (rowVal p :: vr) bs := by
  refine ⟨ran_row ho (by rw [e2, hnl]; simp) hg, rowVal p, vr, bs, [], rfl, by simp, ⟨p, rfl, hr, e2⟩, hrest⟩

def leI (a b : Int) : Bool := decide (a ≤ b)

theorem flat_one : ∀ l : List Int, (List.map (fun z : Int => [Value.int .i64 z]) l).flatten = l.map (Value.int .i64)
  | [] => rfl
  | a :: l => by rw [List.map_cons, List.flatten_cons, flat_one l]; rfl

theorem sortInt_core (L : SlLaysN.n53 P ρ) {S : Nat → Prop} {w : World} {vs : List Value} {x : (Fs.ty [(.own (.int .i64), true)]).den} {bs : List Nat} (ho : Own S w bs) (hx : ShX S w true (Fs.sh [(.own (.int .i64), true)]) x vs bs) (hlen : x.1.length ≤ 1000) :
    Calls P (ρ.f 53) vs.toArray w fun
      | .returned v, w' => ∃ S' b1 b2, Ran S w bs S' w' (b1 ++ b2) ∧ ShR S' w' .nix () v b1 ∧ ShX S' w' true (Fs.sh [(.own (.int .i64), true)]) (isort leI x.1, ()) vs b2
      | _, _ => False := by
  obtain ⟨v, r, b1, b2, rfl, rfl, ⟨p, e1, hrow, e2⟩, rfl, rfl⟩ := hx
  simp only [List.cons.injEq, and_true] at e1
  subst e1
  have hm : x.1.mergeSort (fun x y => decide (x ≤ y)) = isort leI x.1 :=
    isort_merge (le := leI) (fun a b c h1 h2 => by simp only [leI, decide_eq_true_eq] at *; omega) (fun a b => by simp only [leI, decide_eq_true_eq]; omega) (fun a b h1 h2 => by simp only [leI, decide_eq_true_eq] at *; omega) x.1
  cases hnl : p.nl with
  | true =>
    obtain ⟨hn, hr⟩ := hrow
    obtain ⟨-, hxs, hcap⟩ : p.nl = true ∧ x.1 = [] ∧ p.cap = 0 := by
      rcases hr with h | ⟨h, _⟩
      · exact h
      · rw [hnl] at h; cases h
    have e : rowVal p = .slice none 0 p.cap := by unfold rowVal; rw [hnl, hn, hxs]; rfl
    refine (show Calls P (ρ.f 53) #[rowVal p] w _ from e ▸ (AnyG.slices_Sort_int_none L none p.cap w).mono ?_)
    rintro en w' ⟨rfl, rfl⟩
    refine ⟨S, [], b1 ++ [], ho.refl, rfl, ?_⟩
    refine ⟨_, [], b1, [], rfl, rfl, ⟨p, by rw [e], ⟨hn.trans (by rw [hxs]; rfl), .inl ⟨hnl, by rw [hxs]; rfl, hcap⟩⟩, e2⟩, rfl, rfl⟩
  | false =>
    obtain ⟨cs, ty, h1, hn, h2, h3, h4, h5⟩ := hrow.cells hnl
    have hlt : p.b < w.heap.size := (Array.getElem?_eq_some_iff.1 h1).1
    have hbm : p.b ∈ b1 ++ [] := by rw [e2, hnl]; simp
    have h5' : RepRow (fun x c => c = (fun z => [Value.int .i64 z]) x) x.1 ((cs.drop p.o).take (x.1.length * 1)) := h5.imp fun z c h => h
    have hcells := rr_eq h5'
    have hmap := flat_one x.1
    rw [hmap, Nat.mul_one] at hcells
    have hle : p.o + x.1.length ≤ cs.length := by
      have : p.o + p.cap * 1 ≤ cs.length := h4
      omega
    have hid : Holds id w p.b p.o (x.1.map (Value.int .i64)).toArray := holds_id h1 (by simpa using hcells.symm) (by simpa using hle)
    have hH : Holds (Value.int .i64) w p.b p.o x.1.toArray := by
      intro j hj
      have := hid j (by simpa using hj)
      refine ⟨this.1.trans ?_, this.2⟩
      have hj' : j < x.1.length := by simpa using hj
      simp [hj']
    have e : rowVal p = .slice (some ⟨p.b, p.o, none⟩) x.1.length p.cap := by unfold rowVal; rw [hnl, hn]; rfl
    refine (show Calls P (ρ.f 53) #[rowVal p] w _ from e ▸ (AnyG.slices_Sort_int L p.b p.o p.cap x.1 w hH hlt (by omega)).mono ?_)
    rintro en w' ⟨rfl, n, os, rfl⟩
    have hput : putRow (Value.int .i64) (Sort.ahead w n) p.b p.o (x.1.mergeSort fun x y => decide (x ≤ y)).toArray = putRow id (Sort.ahead w n) p.b p.o ((isort leI x.1).map (Value.int .i64)).toArray := by
      rw [hm]
      unfold putRow
      congr 1
      funext c
      unfold putCells
      refine Array.ext_getElem? fun t => ?_
      simp only [Array.getElem?_mapIdx, List.size_toArray, List.length_map]
      congr 1
      funext z
      by_cases ht : p.o ≤ t ∧ t < p.o + (isort leI x.1).length
      · rw [if_pos ht, if_pos ht]
        have h7 : t - p.o < (isort leI x.1).length := by omega
        simp [h7]
      · rw [if_neg ht, if_neg ht]
    rw [hput]
    have hyl : (isort leI x.1).length = x.1.length := (isort_perm x.1).length_eq
    obtain ⟨g1, g2⟩ := rowAt_put (n := n) (os := os) (ys := isort leI x.1) (F := ((isort leI x.1).map (Value.int .i64)).toArray) hrow hnl hyl (by simp [Ty.size]) (fun b hb => ⟨ho.sb b hb, fun e => (ho.old p.b hbm).2 (e ▸ hb)⟩) (fun w' => by
      have : RepRow (fun x c => c = (fun z => [Value.int .i64 z]) x) (isort leI x.1) (List.map (fun z : Int => [Value.int .i64 z]) (isort leI x.1)).flatten := rr_flat _
      have hm2 := flat_one (isort leI x.1)
      rw [hm2] at this
      exact this.imp fun z c h => h)
    exact ⟨S, [], b1 ++ [], (row_ent ho (by rw [e2]; simp) hnl g1 g2 (r := []) (z := ()) (vr := []) ⟨rfl, rfl⟩).1, rfl, by rw [← e]; exact (row_ent ho (by rw [e2]; simp) hnl g1 g2 (r := []) (z := ()) (vr := []) ⟨rfl, rfl⟩).2⟩
theorem sortInt_ent (L : SlLaysN.n53 P ρ) (hb : ∃ fn c, P.funcs[ρ.f 53]? = some fn ∧ fn.body = some c ∧ (fn.name == "runtime.NumGoroutine") = false) :
    EntOk P (ρ.f 53) ⟨[(.own (.int .i64), true)], .nix, List Int, fun x => if x.1.length ≤ 1000 then some (isort leI x.1) else none, fun _ y => ((), (y, ())), false⟩ := by
  refine ⟨hb, ?_⟩
  intro S w vs x bs y ho hx hy
  have hy : (if x.1.length ≤ 1000 then some (isort leI x.1) else none) = some y := hy
  by_cases hlen : x.1.length ≤ 1000
  · rw [if_pos hlen] at hy; cases hy; exact sortInt_core L ho hx hlen
  · rw [if_neg hlen] at hy; cases hy
theorem nodup_inj {α : Type} {f : α → Int} : ∀ {l : List α}, (l.map f).Nodup → ∀ {a b : α}, a ∈ l → b ∈ l → f a = f b → a = b
  | [], _, _, _, ha, _, _ => by cases ha
  | x :: l, h, a, b, ha, hb, e => by
    rw [List.map_cons, List.nodup_cons] at h
    rcases List.mem_cons.1 ha with h1 | ha
    · rcases List.mem_cons.1 hb with h2 | hb
      · rw [h1, h2]
      · exact absurd (List.mem_map.2 ⟨b, hb, by rw [← e, h1]⟩) h.1
    · rcases List.mem_cons.1 hb with h2 | hb
      · exact absurd (List.mem_map.2 ⟨a, ha, by rw [e, h2]⟩) h.1
      · exact nodup_inj h.2 ha hb e

theorem sortFunc_core (L : SlLaysF0.n6 P ρ) {e : Ty} (hp : e.plain = true) [Inhabited e.den] (aE : ∀ w, (isAgg (ρ.t 24)).run P w = .ok true w) (zE : ∀ w, (Go.sizeOf (ρ.t 24)).run P w = .ok e.size w) {g : Nat} {cf : e.den → e.den → Int} {le : e.den → e.den → Bool}
    (hle : ∀ x y, le x y = !(decide (cf y x < 0))) (htr : ∀ a b c, le a b = true → le b c = true → le a c = true) (hto : ∀ a b, le a b = true ∨ le b a = true) (eg : ∀ args w, (callFunc g args).run P w = .ok (.enter g args) w) (hcmp : ∀ x y W, Calls P g #[.agg (e.cells x).toArray, .agg (e.cells y).toArray] W fun en w' => en = .returned (.int .i64 (cf x y)) ∧ ∃ q os', w' = grow (W.drewN q) os')
    {S : Nat → Prop} {w : World} {vs : List Value} {x : (Fs.ty [(.own e, true), (.fn g .un, false)]).den} {bs : List Nat} (ho : Own S w bs) (hx : ShX S w true (Fs.sh [(.own e, true), (.fn g .un, false)]) x vs bs) (hlen : x.1.length ≤ 1000) (han : ∀ a ∈ x.1, ∀ b ∈ x.1, le a b = true → le b a = true → a = b) :
    Calls P (ρ.f 6) vs.toArray w fun
      | .returned v, w' => ∃ S' b1 b2, Ran S w bs S' w' (b1 ++ b2) ∧ ShR S' w' .nix () v b1 ∧ ShX S' w' true (Fs.sh [(.own e, true), (.fn g .un, false)]) (isort le x.1, x.2) vs b2
      | _, _ => False := by
  obtain ⟨v, r, b1, b2, rfl, rfl, ⟨p, e1, hrow, e2⟩, v2, r2, b3, b4, rfl, rfl, ⟨us, e3, ⟨rfl, rfl⟩, -⟩, rfl, rfl⟩ := hx
  simp only [List.cons.injEq, and_true] at e1 e3
  subst e1 e3
  have hlt : ∀ a b, ltOf cf a b = !(le b a) := fun a b => by rw [hle, Bool.not_not]; rfl
  have hO : SWO (ltOf cf) := by
    have hnot : ∀ a b, ltOf cf a b = true ↔ le b a = false := fun a b => by rw [hlt]; cases le b a <;> simp
    have hnot' : ∀ a b, ltOf cf a b = false ↔ le b a = true := fun a b => by rw [hlt]; cases le b a <;> simp
    refine ⟨fun a => (hnot' _ _).2 ((hto a a).elim id id), fun a b c h1 h2 => ?_, fun a b c h1 h2 => ?_⟩
    · rw [hnot] at h1 h2 ⊢
      cases h3 : le c a with
      | false => rfl
      | true =>
        have h4 : le a b = true := (hto a b).resolve_right (by rw [h1]; exact Bool.false_ne_true)
        rw [htr _ _ _ h3 h4] at h2; cases h2
    · rw [hnot'] at h1 h2 ⊢
      exact htr _ _ _ h2 h1
  have hm : ∀ d' : Array e.den, PermIn 0 x.1.toArray.size x.1.toArray d' → SortedIn (ltOf cf) 0 x.1.toArray.size d' → d' = (isort le x.1).toArray := by
    intro d' hP hSo
    obtain ⟨hsz, _, hperm⟩ := hP
    have e1 : d'.extract 0 x.1.toArray.size = d' := by rw [← hsz]; exact Array.extract_size
    rw [e1, Array.extract_size] at hperm
    have hperm : d'.toList.Perm x.1 := hperm
    have : d'.toList = isort le x.1 := by
      refine List.Perm.eq_of_pairwise (le := fun a b => le a b = true) ?_ ?_ (isort_sorted htr hto x.1) (hperm.trans (isort_perm x.1).symm)
      · intro a b ha hb h1 h2
        exact han a (hperm.mem_iff.1 ha) b ((isort_perm x.1).mem_iff.1 hb) h1 h2
      · rw [List.pairwise_iff_getElem]
        intro i j hi hj hij
        have hi' : i < d'.size := by simpa using hi
        have hj' : j < d'.size := by simpa using hj
        have := hSo i j (Nat.zero_le _) hij (by omega)
        rw [getElem!_pos d' j hj', getElem!_pos d' i hi', hlt] at this
        simpa using this
    rw [← this]
  have hfn : ShX S w true (Fs.sh [(.fn g .un, false)]) x.2 [.func (.func g) #[] #[]] [] := ⟨_, [], [], [], rfl, rfl, ⟨[], rfl, ⟨rfl, rfl⟩, rfl⟩, rfl, rfl⟩
  cases hnl : p.nl with
  | true =>
    obtain ⟨hn, hr⟩ := hrow
    obtain ⟨-, hxs, hcap⟩ : p.nl = true ∧ x.1 = [] ∧ p.cap = 0 := by
      rcases hr with h | ⟨h, _⟩
      · exact h
      · rw [hnl] at h; cases h
    have e : rowVal p = .slice none 0 p.cap := by unfold rowVal; rw [hnl, hn, hxs]; rfl
    refine (show Calls P (ρ.f 6) #[rowVal p, .func (.func g) #[] #[]] w _ from e ▸ (AnyF.slices_SortFunc_none L none p.cap (.func (.func g) #[] #[]) w).mono ?_)
    rintro en w' ⟨rfl, rfl⟩
    refine ⟨S, [], b1 ++ [], ho.refl, rfl, ?_⟩
    refine ⟨_, _, b1, [], rfl, rfl, ⟨p, by rw [e], ⟨hn.trans (by rw [hxs]; rfl), .inl ⟨hnl, by rw [hxs]; rfl, hcap⟩⟩, e2⟩, hfn⟩
  | false =>
    obtain ⟨cs, ty, h1, hn, h2, h3, h4, h5⟩ := hrow.cells hnl
    have hblt : p.b < w.heap.size := (Array.getElem?_eq_some_iff.1 h1).1
    have hbm : p.b ∈ b1 ++ [] := by rw [e2, hnl]; simp
    have hk : ∀ x : e.den, (e.cells x).length = e.size := fun x => Ty.cells_len hp
    have h5' : RepRow (fun x c => c = e.cells x) x.1 ((cs.drop p.o).take (x.1.length * e.size)) := h5.imp fun z c h => (Ty.cells_iff hp).1 h
    have hcells := rr_eq h5'
    have hcap : x.1.length * e.size ≤ p.cap * e.size := Nat.mul_le_mul_right _ h2
    have hH : HoldsK (fun x => e.cells x) e.size w p.b p.o x.1.toArray := by
      refine holds_id h1 ?_ ?_
      · rw [flatK_list hk, ← hcells]; simp
      · simp; omega
    have e' : rowVal p = .slice (some ⟨p.b, p.o, none⟩) x.1.length p.cap := by unfold rowVal; rw [hnl, hn]; rfl
    refine (show Calls P (ρ.f 6) #[rowVal p, .func (.func g) #[] #[]] w _ from e' ▸ (AnyQ.slices_SortFunc L e.size aE zE (fun x => e.cells x) hk (fun x => Ty.cells_one hp) cf hO g #[] p.b p.o p.cap x.1.toArray w eg (fun m os dk _ a b => hcmp a b _) hH hblt (by simp; omega)).mono ?_)
    rintro en w' ⟨rfl, d', n, os, hP, hSo, rfl⟩
    have hyl : (isort le x.1).length = x.1.length := (isort_perm x.1).length_eq
    rw [hm d' hP hSo]
    obtain ⟨g1, g2⟩ := rowAt_put (n := n) (os := os) (ys := isort le x.1) (F := flatK (fun x => e.cells x) e.size (isort le x.1).toArray) hrow hnl hyl (by simp) (fun b hb => ⟨ho.sb b hb, fun e => (ho.old p.b hbm).2 (e ▸ hb)⟩) (fun w' => by
      rw [flatK_list hk]
      exact (rr_flat (enc := fun x => e.cells x) (isort le x.1)).imp fun z c h => (Ty.cells_iff hp).2 h)
    have hfn' : ShX S (sortWorldK (fun x => e.cells x) e.size w p.b p.o n (isort le x.1).toArray os) true (Fs.sh [(.fn g .un, false)]) x.2 [.func (.func g) #[] #[]] [] := ⟨_, [], [], [], rfl, rfl, ⟨[], rfl, ⟨rfl, rfl⟩, rfl⟩, rfl, rfl⟩
    have hre := row_ent (r := [(.fn g .un, false)]) ho (by rw [e2]; simp) hnl g1 g2 hfn'
    exact ⟨S, [], b1 ++ [], hre.1, rfl, by rw [← e']; exact hre.2⟩

theorem sortFunc_ent (L : SlLaysF0.n6 P ρ) (hb : ∃ fn c, P.funcs[ρ.f 6]? = some fn ∧ fn.body = some c ∧ (fn.name == "runtime.NumGoroutine") = false) {e : Ty} (hp : e.plain = true) [Inhabited e.den] (aE : ∀ w, (isAgg (ρ.t 24)).run P w = .ok true w) (zE : ∀ w, (Go.sizeOf (ρ.t 24)).run P w = .ok e.size w) {g : Nat} {cf : e.den → e.den → Int} {le : e.den → e.den → Bool}
    (hle : ∀ x y, le x y = !(decide (cf y x < 0))) (htr : ∀ a b c, le a b = true → le b c = true → le a c = true) (hto : ∀ a b, le a b = true ∨ le b a = true) {key : e.den → Int} (hkey : ∀ a b, le a b = true → le b a = true → key a = key b)
    (eg : ∀ args w, (callFunc g args).run P w = .ok (.enter g args) w) (hcmp : ∀ x y W, Calls P g #[.agg (e.cells x).toArray, .agg (e.cells y).toArray] W fun en w' => en = .returned (.int .i64 (cf x y)) ∧ ∃ q os', w' = grow (W.drewN q) os') :
    EntOk P (ρ.f 6) ⟨[(.own e, true), (.fn g .un, false)], .nix, List e.den, fun x => if x.1.length ≤ 1000 ∧ (x.1.map key).Nodup then some (isort le x.1) else none, fun _ y => ((), (y, ())), false⟩ := by
  refine ⟨hb, ?_⟩
  intro S w vs x bs y ho hx hy
  have hy : (if x.1.length ≤ 1000 ∧ (x.1.map key).Nodup then some (isort le x.1) else none) = some y := hy
  by_cases hlen : x.1.length ≤ 1000 ∧ (x.1.map key).Nodup
  · rw [if_pos hlen] at hy; cases hy
    refine sortFunc_core L hp aE zE hle htr hto eg hcmp ho hx hlen.1 (fun a ha b hb h1 h2 => ?_)
    exact nodup_inj hlen.2 ha hb (hkey a b h1 h2)
  · rw [if_neg hlen] at hy; cases hy

end

section
variable {P : Program} {ρ : Ren}

/-! ### Neighbours that are equal are one -/
def cmpGo (p : Int) : List Int → List Int
  | [] => []
  | y :: r => if y = p then cmpGo p r else y :: cmpGo y r
def compactI : List Int → List Int
  | [] => []
  | x :: r => x :: cmpGo x r
theorem cmpGo_snoc (y : Int) : ∀ (l : List Int) (p : Int), cmpGo p (l ++ [y]) = cmpGo p l ++ if y = (p :: l).getLast (by simp) then [] else [y]
  | [], p => by by_cases h : y = p <;> simp [cmpGo, h]
  | z :: l, p => by
    rw [List.cons_append, cmpGo, cmpGo]
    by_cases h : z = p
    · rw [if_pos h, if_pos h, cmpGo_snoc y l p]
      congr 1
      cases l with
      | nil => subst h; rfl
      | cons a l => rfl
    · rw [if_neg h, if_neg h, cmpGo_snoc y l z, List.cons_append]
      rfl
theorem compactUpTo_eq (xs : List Int) : ∀ m, m ≤ xs.length → Go.Lib.compactUpTo xs.toArray m = compactI (xs.take m)
  | 0, _ => by simp [Go.Lib.compactUpTo, compactI]
  | m + 1, h => by
    have ih := compactUpTo_eq xs m (by omega)
    have hm : m < xs.length := by omega
    have e1 : Go.Lib.compactUpTo xs.toArray (m + 1) = Go.Lib.compactUpTo xs.toArray m ++ if Go.Lib.keeps xs.toArray m then [xs.toArray[m]!] else [] := by
      unfold Go.Lib.compactUpTo
      rw [List.range_succ, List.filter_append, List.map_append]
      congr 1
      cases hk : Go.Lib.keeps xs.toArray m <;> simp [hk]
    rw [e1, ih, List.take_add_one, List.getElem?_eq_getElem hm]
    have hx : xs.toArray[m]! = xs[m] := by simp [hm]
    rw [hx]
    cases ht : xs.take m with
    | nil =>
      have : m = 0 := by
        have := congrArg List.length ht
        rw [List.length_take, List.length_nil] at this
        omega
      subst this
      simp [Go.Lib.keeps, compactI, cmpGo]
    | cons a l =>
      show compactI (a :: l) ++ _ = compactI (a :: (l ++ [xs[m]]))
      rw [compactI, compactI, cmpGo_snoc, List.cons_append]
      congr 2
      have hm0 : 0 < m := by
        rcases Nat.eq_zero_or_pos m with h0 | h0
        · subst h0; simp at ht
        · exact h0
      have hlast : (a :: l).getLast (by simp) = xs[m - 1] := by
        have : (xs.take m).getLast (by rw [ht]; simp) = xs[m - 1] := by
          rw [List.getLast_eq_getElem, List.getElem_take]
          congr 1
          rw [List.length_take]
          omega
        simpa [ht] using this
      rw [hlast]
      have hk : Go.Lib.keeps xs.toArray m = decide (xs[m] ≠ xs[m - 1]) := by
        unfold Go.Lib.keeps
        have h1 : xs.toArray[m]! = xs[m] := hx
        have h2 : xs.toArray[m - 1]! = xs[m - 1] := by simp [show m - 1 < xs.length by omega]
        rw [h1, h2]
        have : ¬ m = 0 := by omega
        simp [this]
      rw [hk]
      by_cases h3 : xs[m] = xs[m - 1]
      · simp [h3]
      · simp [h3]

theorem RowAt.first {S : Nat → Prop} {w : World} {p : At} {e : Ty} {xs : List e.den} (h : RowAt S w p e xs) (hnl : p.nl = false) (m : Nat) (hm : m ≤ xs.length) : RowAt S w ⟨p.b, m, p.o, p.cap, false⟩ e (xs.take m) := by
  obtain ⟨cs, ty, h1, hn, h2, h3, h4, h5⟩ := h.cells hnl
  have hl : (xs.take m).length = m := by simp; omega
  refine ⟨hl.symm, .inr ⟨rfl, cs, ty, h1, by rw [hl]; exact Nat.le_trans hm h2, h3, h4, ?_⟩⟩
  have := RepRow.take (R := Rep S w e) (n := e.size) (fun x c h => Rep.length h) m h5
  rw [List.take_take] at this
  rw [hl]
  rwa [Nat.min_eq_left (Nat.mul_le_mul_right _ hm)] at this

theorem compactUpTo_le (d : Array Int) (m : Nat) : (Go.Lib.compactUpTo d m).length ≤ m := by
  unfold Go.Lib.compactUpTo
  rw [List.length_map]
  exact Nat.le_trans (List.length_filter_le _ _) (by simp)

/-- 'none': a nil slice. -/
theorem compact_ent (L : SlLaysE.n43 P ρ) (hb : ∃ fn c, P.funcs[ρ.f 43]? = some fn ∧ fn.body = some c ∧ (fn.name == "runtime.NumGoroutine") = false) (v23 : ∀ w, (zeroValue (ρ.t 23)).run P w = .ok (.int .i64 0) w)
    (hnil : ∀ w, Calls P (ρ.f 43) #[.slice none 0 0] w fun e w' => e = .returned (.slice none 0 0) ∧ w' = w) :
    EntOk P (ρ.f 43) ⟨[(.own (.int .i64), false)], .own (.int .i64), List Int, fun x => if x.1.length ≤ 1000 then some (compactI x.1) else none, fun _ y => (y, ()), true⟩ := by
  refine ⟨hb, ?_⟩
  intro S w vs x bs y ho hx hy
  have hy : (if x.1.length ≤ 1000 then some (compactI x.1) else none) = some y := hy
  have hlen : x.1.length ≤ 1000 := by
    by_cases hlen : x.1.length ≤ 1000
    · exact hlen
    · rw [if_neg hlen] at hy; cases hy
  rw [if_pos hlen] at hy
  cases hy
  obtain ⟨v, r, b1, b2, rfl, rfl, ⟨p, e1, hrow, e2⟩, rfl, rfl⟩ := hx
  simp only [List.cons.injEq, and_true] at e1
  subst e1
  have key : Calls P (ρ.f 43) #[rowVal p] w fun
      | .returned v, w' => ∃ S' c1, Ran S w (b1 ++ []) S' w' c1 ∧ ShR S' w' (.own (.int .i64)) (compactI x.1) v c1
      | _, _ => False := by
    cases hnl : p.nl with
    | true =>
      obtain ⟨hn, hr⟩ := hrow
      obtain ⟨-, hxs, hcap⟩ : p.nl = true ∧ x.1 = [] ∧ p.cap = 0 := by
        rcases hr with h | ⟨h, _⟩
        · exact h
        · rw [hnl] at h; cases h
      have e : rowVal p = .slice none 0 0 := by unfold rowVal; rw [hnl, hn, hxs, hcap]; rfl
      rw [e]
      refine (hnil w).mono ?_
      rintro en w' ⟨rfl, rfl⟩
      refine ⟨S, b1 ++ [], ho.refl, ?_⟩
      refine ⟨p, by rw [e], ⟨hn.trans (by rw [hxs]; rfl), .inl ⟨hnl, by rw [hxs]; rfl, hcap⟩⟩, by rw [e2]; simp⟩
    | false =>
      obtain ⟨cs, ty, h1, hn, h2, h3, h4, h5⟩ := hrow.cells hnl
      have hbm : p.b ∈ b1 ++ [] := by rw [e2, hnl]; simp
      have h5' : RepRow (fun x c => c = (fun z => [Value.int .i64 z]) x) x.1 ((cs.drop p.o).take (x.1.length * 1)) := h5.imp fun z c h => h
      have hcells := rr_eq h5'
      have hmap := flat_one x.1
      rw [hmap, Nat.mul_one] at hcells
      have hle : p.o + x.1.length ≤ cs.length := by
        have : p.o + p.cap * 1 ≤ cs.length := h4
        omega
      have hid : Holds id w p.b p.o (x.1.map (Value.int .i64)).toArray := holds_id h1 (by simpa using hcells.symm) (by simpa using hle)
      have hH : Holds (Value.int .i64) w p.b p.o x.1.toArray := by
        intro j hj
        have := hid j (by simpa using hj)
        refine ⟨this.1.trans ?_, this.2⟩
        have hj' : j < x.1.length := by simpa using hj
        simp [hj']
      have e : rowVal p = .slice (some ⟨p.b, p.o, none⟩) x.1.toArray.size p.cap := by unfold rowVal; rw [hnl, hn]; simp
      rw [e]
      refine (AnyE.slices_Compact L (Value.int .i64) (fun _ => rfl) (EqlAt.intD _ _ _) (NeqAt.intD _ _ _) 0 v23 p.b p.o p.cap x.1.toArray w hH (by simp; omega) (by simpa using h2)).mono ?_
      rintro en w' ⟨rfl, n, rfl⟩
      have hc : Go.Lib.compactUpTo x.1.toArray x.1.toArray.size = compactI x.1 := by
        have := compactUpTo_eq x.1 x.1.length (Nat.le_refl _)
        rw [List.take_length] at this
        simpa using this
      have hcl : (compactI x.1).length ≤ x.1.length := by rw [← hc]; simpa using compactUpTo_le x.1.toArray x.1.toArray.size
      rw [hc]
      obtain ⟨F, hF⟩ : ∃ F, compactI x.1 ++ List.replicate (x.1.toArray.size - (compactI x.1).length) 0 = F := ⟨_, rfl⟩
      rw [hF]
      have hFl : F.length = x.1.length := by rw [← hF]; simp; omega
      have hput : putRow (Value.int .i64) (Sort.ahead w n) p.b p.o F.toArray = grow (putRow id (Sort.ahead w n) p.b p.o (F.map (Value.int .i64)).toArray) #[] := by
        rw [grow_empty]
        unfold putRow
        congr 1
        funext c
        unfold putCells
        refine Array.ext_getElem? fun t => ?_
        simp only [Array.getElem?_mapIdx, List.size_toArray, List.length_map]
        congr 1
        funext z
        by_cases ht : p.o ≤ t ∧ t < p.o + F.length
        · rw [if_pos ht, if_pos ht]
          have h7 : t - p.o < F.length := by omega
          simp [h7]
        · rw [if_neg ht, if_neg ht]
      rw [hput]
      obtain ⟨g1, g2⟩ := rowAt_put (e := .int .i64) (n := n) (os := #[]) (ys := F) (F := (F.map (Value.int .i64)).toArray) hrow hnl hFl (by simp [Ty.size]) (fun b hb => ⟨ho.sb b hb, fun e => (ho.old p.b hbm).2 (e ▸ hb)⟩) (fun w' => by
        have : RepRow (fun x c => c = (fun z => [Value.int .i64 z]) x) F (List.map (fun z : Int => [Value.int .i64 z]) F).flatten := rr_flat _
        rw [flat_one] at this
        exact this.imp fun z c h => h)
      have g3 := g1.first hnl (compactI x.1).length (by rw [hFl]; exact hcl)
      have ht : F.take (compactI x.1).length = compactI x.1 := by rw [← hF]; simp
      rw [ht] at g3
      exact ⟨S, b1 ++ [], ran_row ho hbm g2, ⟨p.b, (compactI x.1).length, p.o, p.cap, false⟩, rfl, g3, by rw [e2, hnl]; simp⟩
  exact key

end

/-! ### A function that compares -/
theorem Ran.grown {S S' : Nat → Prop} {w w' : World} {bs' : List Nat} (h : Ran S w [] S' w' bs') : ∃ q os, w' = grow (w.drewN q) os := by
  obtain ⟨h1, h2⟩ := h.output
  have h2 : w.drawn ≤ w'.drawn := h2
  have hs := h.size
  refine ⟨w'.drawn - w.drawn, w'.heap.extract w.heap.size, ?_⟩
  have e1 : w'.heap = w.heap ++ w'.heap.extract w.heap.size := by
    refine Array.ext_getElem? fun i => ?_
    rw [Array.getElem?_append]
    by_cases hi : i < w.heap.size
    · rw [if_pos hi]; exact h.same i hi (by simp)
    · rw [if_neg hi]
      simp only [Array.getElem?_extract]
      by_cases h3 : i < w'.heap.size
      · rw [if_pos (by omega)]
        congr 1
        omega
      · rw [if_neg (by omega), Array.getElem?_eq_none (by omega)]
  have e2 : w'.drawn = w.drawn + (w'.drawn - w.drawn) := by omega
  obtain ⟨heap, tape, drawn, os, output⟩ := w'
  have g1 : tape = w.tape := h.tape
  have g2 : os = w.os := h.os
  have g3 : output = w.output := h1
  have e1 : heap = w.heap ++ heap.extract w.heap.size := e1
  have e2 : drawn = w.drawn + (drawn - w.drawn) := e2
  subst g1 g2 g3
  show (⟨heap, w.tape, drawn, w.os, w.output⟩ : World) = ⟨w.heap ++ heap.extract w.heap.size, w.tape, w.drawn + (drawn - w.drawn), w.os, w.output⟩
  rw [← e1, ← e2]

theorem EntOk.cmp {P : Program} {f : Nat} {e : Ty} {fn : (Fs.ty [(.dat e, false), (.dat e, false)]).den → Option Int} (h : EntOk P f ⟨[(.dat e, false), (.dat e, false)], .dat (.int .i64), Int, fn, fun _ y => (y, ()), false⟩) (hp : e.plain = true) (hg : e.agg = true) {cf : e.den → e.den → Int}
    (hfn : ∀ x y, fn (x, y, ()) = some (cf x y)) (x y : e.den) (W : World) : Calls P f #[.agg (e.cells x).toArray, .agg (e.cells y).toArray] W fun en w' => en = .returned (.int .i64 (cf x y)) ∧ ∃ q os', w' = grow (W.drewN q) os' := by
  have hv : ∀ z : e.den, cond (Sh.dat e).agg (∃ cs : List Value, Value.agg (e.cells z).toArray = .agg cs.toArray ∧ ShX (fun _ => False) W false (.dat e) z cs []) (ShX (fun _ => False) W false (.dat e) z [Value.agg (e.cells z).toArray] []) := by
    intro z
    have : (Sh.dat e).agg = true := hg
    rw [this]
    exact ⟨_, rfl, (Ty.cells_iff hp).2 rfl, rfl⟩
  refine (h.2 (fun _ => False) W [.agg (e.cells x).toArray, .agg (e.cells y).toArray] (x, y, ()) [] (cf x y) ⟨fun b hb => (by cases hb), List.nodup_nil, fun b hb => hb.elim, fun q hq => by simp [glob] at hq⟩ ⟨_, _, [], [], rfl, rfl, hv x, _, _, [], [], rfl, rfl, hv y, rfl, rfl⟩ (hfn x y)).mono ?_
  rintro en w' hen
  cases en with
  | returned v =>
    obtain ⟨S', b1, b2, hran, hres, _⟩ := hen
    have h1 : [v] = [Value.int .i64 (cf x y)] := hres.1
    cases h1
    exact ⟨rfl, hran.grown⟩
  | panicked c => exact hen.elim
  | outgrown => exact hen.elim

end Go.Pv

/- Numbers collected: one is laid behind a row. -/
set_option linter.unusedVariables false
set_option linter.unusedSimpArgs false
namespace Go.Pv

theorem append_int {P : Program} {T : Nat → TI} (hT : ∀ t, TiOk P T t) {L : Lib} (hL : L.ti = T) {t et : Nat} (hk : (T t).k = .slice et) (hpu : (T et).pure = true) (hty : (T et).ty = .int .i64) (hby : (T et).bytes = 8) (ty : TypeId)
    {w : World} {p : At} {ks : List Int} {i : Int} {b : Nat} {tt : TypeId} (hrow : RowAt (fun _ => False) w p (.int .i64) ks) (hb : w.heap[b]? = some (.cells #[.int .i64 i] tt (0, 0))) (hpb : p.nl = false → p.b ≠ b)
    (hlen : (ks.length + 1) * 8 ≤ 140737488355328) (hG : Gl (fun _ => False) w) :
    ∃ p' w', (Builtin.append_ #[t, t] ty #[rowVal p, .slice (some ⟨b, 0, none⟩) 1 1]).run P w = .ok (rowVal p') w' ∧ RowAt (fun _ => False) w' p' (.int .i64) (ks ++ [i]) ∧ p'.nl = false ∧ ((p.nl = false ∧ p'.b = p.b) ∨ w.heap.size ≤ p'.b) ∧
      w'.os = w.os ∧ w'.tape = w.tape ∧ OutOk w w' ∧ w.heap.size ≤ w'.heap.size ∧ p'.b < w'.heap.size ∧ ∀ c, c < w.heap.size → (p.nl = false → c ≠ p.b) → c ≠ b → w'.heap[c]? = w.heap[c]? := by
  obtain ⟨μ, hμ⟩ : ∃ μ : Nat → Option At, μ = fun k => if k = 0 then some p else if k = 1 then some ⟨b, 1, 0, 1, false⟩ else none := ⟨_, rfl⟩
  have m0 : μ 0 = some p := by rw [hμ]; rfl
  have m1 : μ 1 = some ⟨b, 1, 0, 1, false⟩ := by rw [hμ]; rfl
  have mm : ∀ k q, μ k = some q → (k = 0 ∧ q = p) ∨ (k = 1 ∧ q = ⟨b, 1, 0, 1, false⟩) := by
    intro k q h
    rw [hμ] at h
    dsimp only at h
    split at h
    · cases h; exact .inl ⟨by assumption, rfl⟩
    · split at h
      · cases h; exact .inr ⟨by assumption, rfl⟩
      · cases h
  have hlk : ∀ k x, lk [(1, Blk.row (.int .i64) [i]), (0, Blk.row (.int .i64) ks)] k = some x → (k = 1 ∧ x = .row (.int .i64) [i]) ∨ (k = 0 ∧ x = .row (.int .i64) ks) := by
    intro k x h
    rw [lk_cons] at h
    split at h
    · cases h; exact .inl ⟨by first | assumption | exact (by assumption : _ = _).symm, rfl⟩
    · rw [lk_cons] at h
      split at h
      · cases h; exact .inr ⟨by first | assumption | exact (by assumption : _ = _).symm, rfl⟩
      · cases h
  have hltb : b < w.heap.size := by
    rcases Nat.lt_or_ge b w.heap.size with h | h
    · exact h
    · simp [Array.getElem?_eq_none h] at hb
  have hltp : p.nl = false → p.b < w.heap.size := by
    intro hn
    obtain ⟨-, h⟩ := hrow
    rcases h with ⟨h, -⟩ | ⟨-, cs, ty', h, -⟩
    · rw [hn] at h; cases h
    · rcases Nat.lt_or_ge p.b w.heap.size with g | g
      · exact g
      · simp [Array.getElem?_eq_none g] at h
  have hB : SimB μ (fun _ => False) w [(1, Blk.row (.int .i64) [i]), (0, Blk.row (.int .i64) ks)] 2 := by
    refine ⟨fun k q h => ?_, fun k x h => ?_, fun c hc => ?_, fun k k' x x' q q' h1 h2 _ _ h3 h4 h5 h6 h7 => ?_, fun c hc => hc.elim, hG⟩
    · rcases mm k q h with ⟨rfl, -⟩ | ⟨rfl, -⟩ <;> omega
    · rcases hlk k x h with ⟨rfl, rfl⟩ | ⟨rfl, rfl⟩
      · exact ⟨_, m1, rfl, .inr ⟨rfl, [.int .i64 i], tt, hb, Nat.le_refl _, (by decide : 1 ≤ maxLen), Nat.le_refl 1, ⟨[.int .i64 i], [], rfl, rfl, rfl⟩⟩⟩
      · exact ⟨_, m0, hrow.1, hrow.2⟩
    · obtain ⟨k, x, q, h1, h2, h3, h4, rfl⟩ := hc
      rcases mm k q h3 with ⟨rfl, rfl⟩ | ⟨rfl, rfl⟩
      · exact ⟨hltp h4, fun h => h⟩
      · exact ⟨hltb, fun h => h⟩
    · rcases mm k q h3 with ⟨rfl, rfl⟩ | ⟨rfl, rfl⟩
      · rcases mm k' q' h4 with ⟨rfl, rfl⟩ | ⟨rfl, rfl⟩
        · rfl
        · exact absurd h7 (hpb h5)
      · rcases mm k' q' h4 with ⟨rfl, rfl⟩ | ⟨rfl, rfl⟩
        · exact absurd h7.symm (hpb h6)
        · rfl
  have hap : appendAV ⟨[], [(1, Blk.row (.int .i64) [i]), (0, Blk.row (.int .i64) ks)], 2⟩ (T et).ty (T et).bytes (.own 0) (.own 1) (fun st v => some (st, v)) =
      some ((⟨[], (2, .row (.int .i64) (ks ++ [i])) :: (0, .dead) :: [(1, Blk.row (.int .i64) [i]), (0, Blk.row (.int .i64) ks)], 3⟩ : St), AV.own 2) := by
    rw [hty, hby]
    show (if (ks.length + 1) * 8 ≤ 140737488355328 then _ else none) = _
    rw [if_pos hlen]
    rfl
  have hs0 : RV μ (fun _ => False) w (.own 0) (rowVal p) := RV.of_one (u := .own 0) ⟨p, m0, rfl⟩ rfl
  have hs1 : RV μ (fun _ => False) w (.own 1) (.slice (some ⟨b, 0, none⟩) 1 1) := RV.of_one (u := .own 1) ⟨_, m1, rfl⟩ rfl
  obtain ⟨ε, nb', u, v', μ', w', hK, hrun, ⟨hB', hE, -, -⟩, hv⟩ := append_ok hT hL hB hk hpu ty hap hs0 hs1
  have hK := Option.some.inj hK
  obtain ⟨e1, rfl⟩ := Prod.mk.inj hK
  have e2 : ε ++ [(1, Blk.row (.int .i64) [i]), (0, Blk.row (.int .i64) ks)] = (2, .row (.int .i64) (ks ++ [i])) :: (0, .dead) :: [(1, Blk.row (.int .i64) [i]), (0, Blk.row (.int .i64) ks)] := (St.mk.inj e1).2.1
  rw [e2] at hB' hE
  obtain ⟨p', hp', rfl⟩ := hv.own_inv
  obtain ⟨q, hq, g1, g2⟩ := hB'.blk 2 (.row (.int .i64) (ks ++ [i])) rfl
  rw [hp'] at hq; cases hq
  have hnl : p'.nl = false := by
    rcases g2 with ⟨-, h, -⟩ | ⟨h, -⟩
    · simp at h
    · exact h
  have hlt' : p'.b < w'.heap.size := (hB'.old p'.b ⟨2, _, p', rfl, by simp, hp', hnl, rfl⟩).1
  refine ⟨p', w', hrun, ⟨g1, g2⟩, hnl, ?_, hE.os, hE.tape, hE.output, hE.size, hlt', fun c hc h1 h2 => hE.same c hc ?_⟩
  · rcases hE.liv p'.b ⟨2, _, p', rfl, by simp, hp', hnl, rfl⟩ with ⟨k, x, q, h1, h2, h3, h4, h5⟩ | h
    · rcases mm k q h3 with ⟨rfl, rfl⟩ | ⟨rfl, rfl⟩
      · exact .inl ⟨h4, h5.symm⟩
      · have h21 : (2 : Nat) = 1 := hB'.inj 2 1 _ (.row (.int .i64) [i]) p' _ rfl rfl (by simp) (by simp) hp' (hE.mu 1 _ m1) hnl rfl h5.symm
        cases h21
    · exact .inr h
  · rintro ⟨k, x, q, g3, g4, g5, g6, rfl⟩
    rcases mm k q g5 with ⟨rfl, rfl⟩ | ⟨rfl, rfl⟩
    · exact h1 g6 rfl
    · exact h2 rfl

/-- A key's number. -/
def keyI (e : MapEntry) : Int := match e.key with | .int _ n => n | _ => 0
/-- The entries that were handed out. -/
def seenOf (l : List MapEntry) (seen : Array Nat) : List MapEntry := l.filter fun x => seen.contains x.born
theorem seenOf_push (seen : Array Nat) (e : MapEntry) (hs : seen.contains e.born = false) : ∀ l : List MapEntry, (l.map (·.born)).Nodup → e ∈ l → (seenOf l (seen.push e.born)).Perm (e :: seenOf l seen)
  | x :: l, hn, he => by
    have hn' : x.born ∉ l.map (·.born) ∧ (l.map (·.born)).Nodup := List.nodup_cons.1 hn
    unfold seenOf
    rw [List.filter_cons, List.filter_cons, contains_push]
    rcases List.mem_cons.1 he with rfl | h
    · have hl : (l.filter fun y => (seen.push e.born).contains y.born) = l.filter fun y => seen.contains y.born := by
        apply List.filter_congr
        intro y hy
        rw [contains_push]
        have : (y.born == e.born) = false := beq_eq_false_iff_ne.2 fun q => hn'.1 (List.mem_map.2 ⟨y, hy, q⟩)
        rw [this, Bool.or_false]
      rw [hs, hl]
      simp
    · have hx : (x.born == e.born) = false := beq_eq_false_iff_ne.2 fun q => hn'.1 (by rw [q]; exact List.mem_map.2 ⟨e, h, rfl⟩)
      have ih := seenOf_push seen e hs l hn'.2 h
      unfold seenOf at ih
      rw [hx, Bool.or_false]
      cases seen.contains x.born with
      | true => exact (ih.cons x).trans (List.Perm.swap e x _)
      | false => exact ih
theorem seenOf_none (l : List MapEntry) : seenOf l #[] = [] := by
  unfold seenOf
  apply List.filter_eq_nil_iff.2
  intro x _
  simp
theorem seenOf_all {es : Array MapEntry} {seen : Array Nat} (h : (leftOf es seen).size = 0) : seenOf es.toList seen = es.toList := by
  unfold seenOf
  apply List.filter_eq_self.2
  intro x hx
  cases hc : seen.contains x.born with
  | true => rfl
  | false =>
    have hm : x ∈ leftOf es seen := by
      unfold leftOf
      rw [Array.mem_filter]
      exact ⟨Array.mem_toList_iff.1 hx, by rw [hc]; rfl⟩
    have h0 : leftOf es seen = #[] := Array.eq_empty_of_size_eq_zero h
    rw [h0] at hm
    simp at hm
theorem keys_of {S : Nat → Prop} {w : World} {vt : Ty} : ∀ {es : List (Int × vt.den)} {l : List MapEntry}, REnts S w (.int .i64) vt es l → l.map keyI = es.map (·.1) ∧ ∀ e ∈ l, ∃ n : Int, e.key = .int .i64 n
  | [], l, h => by
    have h : l = [] := h
    subst h
    exact ⟨rfl, fun e he => by cases he⟩
  | p :: r, l, h => by
    obtain ⟨e, l', rfl, h1, -, h3⟩ := h
    obtain ⟨i1, i2⟩ := keys_of h3
    have h1 : [e.key] = [Value.int .i64 p.1] := h1
    have h1 : e.key = Value.int .i64 p.1 := (List.cons.inj h1).1
    refine ⟨?_, fun x hx => ?_⟩
    · rw [List.map_cons, List.map_cons, i1]
      congr 1
      unfold keyI
      rw [h1]
    · rcases List.mem_cons.1 hx with rfl | hx
      · exact ⟨_, h1⟩
      · exact i2 x hx
end Go.Pv
