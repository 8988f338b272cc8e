/- A pure reading of the model's code, and that the run does what it says: part h. -/
import Derived.Test.YtdgibokmaannjaaPg
import Derived.Shelf.SortG.Plain
import Derived.Shelf.SortG.SortNone
import Derived.Shelf.SlSortCmp.NoneTotal
import Derived.Shelf.SlicesE.Compact
import Derived.Shelf.SlLaysE0
import Derived.Shelf.SlicesE.Delete
import Derived.Shelf.Spec.SlicesInsertGrow
/- Rows of the reading, and the library's words for rows of a sort. -/
set_option linter.unusedVariables false
set_option linter.unusedSimpArgs false
set_option linter.unusedSectionVars false
namespace Go.Pv
open Go.Sort Go.Shelf Go.Proofs

def Ty.cells : (t : Ty) → t.den → List Value
  | .int k, x => [.int k x]
  | .bool, x => [.bool x]
  | .str, x => [.string x]
  | .pr a b, x => a.cells x.1 ++ b.cells x.2
  | .arr _ e, xs => (List.map (fun x => e.cells x) xs).flatten
  | .sl _, _ => []
  | .un, _ => []
  | .err, _ => []
  | .np, _ => []

def Ty.plain : Ty → Bool
  | .int _ | .bool | .str => true
  | .pr a b => a.plain && b.plain
  | _ => false

theorem Ty.cells_iff {S : Nat → Prop} {w : World} : ∀ {t : Ty} {x : t.den} {cs : List Value}, t.plain = true → (Rep S w t x cs ↔ cs = t.cells x)
  | .int _, x, cs, _ => Iff.rfl
  | .bool, x, cs, _ => Iff.rfl
  | .str, x, cs, _ => Iff.rfl
  | .pr a b, x, cs, h => by
    obtain ⟨ha, hb⟩ := Bool.and_eq_true _ _ ▸ (show (a.plain && b.plain) = true from h)
    constructor
    · rintro ⟨c, r, e, h1, h2⟩
      rw [e, (Ty.cells_iff ha).1 h1, (Ty.cells_iff hb).1 h2]; rfl
    · intro e
      exact ⟨_, _, e, (Ty.cells_iff ha).2 rfl, (Ty.cells_iff hb).2 rfl⟩
  | .un, x, cs, h => by cases h
  | .err, x, cs, h => by cases h
  | .np, x, cs, h => by cases h
  | .arr _ _, x, cs, h => by cases h
  | .sl _, x, cs, h => by cases h
theorem Ty.cells_len : ∀ {t : Ty} {x : t.den}, t.plain = true → (t.cells x).length = t.size
  | .int _, x, _ => rfl
  | .bool, x, _ => rfl
  | .str, x, _ => rfl
  | .pr a b, x, h => by
    obtain ⟨ha, hb⟩ := Bool.and_eq_true _ _ ▸ (show (a.plain && b.plain) = true from h)
    show (a.cells x.1 ++ b.cells x.2).length = a.size + b.size
    rw [List.length_append, Ty.cells_len ha, Ty.cells_len hb]
  | .un, x, h => by cases h
  | .err, x, h => by cases h
  | .np, x, h => by cases h
  | .arr _ _, x, h => by cases h
  | .sl _, x, h => by cases h
theorem Ty.cells_one : ∀ {t : Ty} {x : t.den}, t.plain = true → ∀ v ∈ t.cells x, v.oneCell' = true
  | .int _, x, _ => by intro v hv; simp only [Ty.cells, List.mem_singleton] at hv; subst hv; rfl
  | .bool, x, _ => by intro v hv; simp only [Ty.cells, List.mem_singleton] at hv; subst hv; rfl
  | .str, x, _ => by intro v hv; simp only [Ty.cells, List.mem_singleton] at hv; subst hv; rfl
  | .pr a b, x, h => by
    obtain ⟨ha, hb⟩ := Bool.and_eq_true _ _ ▸ (show (a.plain && b.plain) = true from h)
    intro v hv
    rcases List.mem_append.1 (show v ∈ a.cells x.1 ++ b.cells x.2 from hv) with h | h
    · exact Ty.cells_one ha v h
    · exact Ty.cells_one hb v h
  | .un, x, h => by cases h
  | .err, x, h => by cases h
  | .np, x, h => by cases h
  | .arr _ _, x, h => by cases h
  | .sl _, x, h => by cases h

section
variable {α : Type} [Inhabited α] {enc : α → List Value} {k : Nat}

theorem rr_flat : ∀ (xs : List α), RepRow (fun x c => c = enc x) xs (xs.map enc).flatten
  | [] => rfl
  | x :: xs => ⟨enc x, _, by simp, rfl, rr_flat xs⟩
theorem rr_eq : ∀ {xs : List α} {cs : List Value}, RepRow (fun x c => c = enc x) xs cs → cs = (xs.map enc).flatten
  | [], _, h => h
  | x :: xs, cs, ⟨c, r, e, h1, h2⟩ => by rw [e, h1, rr_eq h2]; simp
end

/-- Where a row's cells are. -/
theorem RowAt.cells {S : Nat → Prop} {w : World} {p : At} {e : Ty} {xs : List e.den} (h : RowAt S w p e xs) (hnl : p.nl = false) : ∃ (cs : List Value) (ty : TypeId), w.heap[p.b]? = some (.cells cs.toArray ty (0, 0)) ∧ p.n = xs.length ∧ xs.length ≤ p.cap ∧ p.cap ≤ maxLen ∧ p.o + p.cap * e.size ≤ cs.length ∧
    RepRow (Rep S w e) xs ((cs.drop p.o).take (xs.length * e.size)) := by
  obtain ⟨hn, h⟩ := h
  rcases h with ⟨h1, _⟩ | ⟨_, cs, ty, h1, h2, h3, h4, h5⟩
  · rw [hnl] at h1; cases h1
  · exact ⟨cs, ty, h1, hn, h2, h3, h4, h5⟩

theorem holds_id {w : World} {b o : Nat} {cs : List Value} {ty : TypeId} {F : Array Value} (h : w.heap[b]? = some (.cells cs.toArray ty (0, 0))) (hF : F.toList = (cs.drop o).take F.size) (hl : o + F.size ≤ cs.length) : Holds id w b o F := by
  intro j hj
  refine ⟨?_, by simp [World.frozen?, h]⟩
  have : F.toList[j]? = ((cs.drop o).take F.size)[j]? := by rw [← hF]
  rw [List.getElem?_take, if_pos hj, List.getElem?_drop, Array.getElem?_toList, Array.getElem?_eq_getElem hj] at this
  simp [World.cell?, h, ← this, getElem!_pos F j hj]

/-- The row behind the sort. -/
theorem rowAt_put {S : Nat → Prop} {w : World} {p : At} {e : Ty} {xs ys : List e.den} {F : Array Value} {n : Nat} {os : Array Obj} (h : RowAt S w p e xs) (hnl : p.nl = false) (hy : ys.length = xs.length) (hFs : F.size = ys.length * e.size)
    (hS : ∀ b, S b → b < w.heap.size ∧ b ≠ p.b) (hF : ∀ w', RepRow (Rep S w' e) ys F.toList) : RowAt S (grow (putRow id (Sort.ahead w n) p.b p.o F) os) p e ys ∧ w.grownBy (grow (putRow id (Sort.ahead w n) p.b p.o F) os) (some p.b) ∧ w.drawn ≤ (grow (putRow id (Sort.ahead w n) p.b p.o F) os).drawn := by
  obtain ⟨cs, ty, h1, hn, h2, h3, h4, h5⟩ := h.cells hnl
  have hlt : p.b < w.heap.size := (Array.getElem?_eq_some_iff.1 h1).1
  have hold : ∀ k, k < w.heap.size → k ≠ p.b → (grow (putRow id (Sort.ahead w n) p.b p.o F) os).heap[k]? = w.heap[k]? := by
    intro k hk hne
    rw [heap_grow_old _ _ (by simpa [putRow, mapBlock, Sort.ahead] using hk)]
    simp [putRow, mapBlock, Sort.ahead, Array.getElem?_modify, Ne.symm hne]
  have hnew : (grow (putRow id (Sort.ahead w n) p.b p.o F) os).heap[p.b]? = some (.cells (putCells id p.o F cs.toArray) ty (0, 0)) := by
    rw [heap_grow_old _ _ (by simpa [putRow, mapBlock, Sort.ahead] using hlt)]
    simp [putRow, mapBlock, Sort.ahead, Array.getElem?_modify, h1, onCells]
  have hcap : xs.length * e.size ≤ p.cap * e.size := Nat.mul_le_mul_right _ h2
  refine ⟨⟨by rw [hn, hy], .inr ⟨hnl, (putCells id p.o F cs.toArray).toList, ty, by rw [hnew], by omega, h3, by simp [putCells]; omega, ?_⟩⟩, ⟨rfl, rfl, rfl, by simp [grow, putRow, mapBlock, Sort.ahead], fun k hk hne => hold k hk (fun e => hne (by rw [e]))⟩, Nat.le_add_right _ _⟩
  have hl : ((putCells id p.o F cs.toArray).toList.drop p.o).take (ys.length * e.size) = F.toList := by
    refine List.ext_getElem? fun t => ?_
    rw [List.getElem?_take]
    by_cases ht : t < ys.length * e.size
    · rw [if_pos ht, List.getElem?_drop, Array.getElem?_toList, Array.getElem?_toList, Array.getElem?_eq_getElem (by omega : t < F.size)]
      have h6 : p.o + t < cs.length := by rw [hy] at ht; omega
      simp only [putCells, Array.getElem?_mapIdx, List.getElem?_toArray, List.getElem?_eq_getElem h6, Option.map_some]
      rw [if_pos ⟨by omega, by omega⟩, show p.o + t - p.o = t by omega, getElem!_pos F t (by omega)]
      rfl
    · rw [if_neg ht, Array.getElem?_toList, Array.getElem?_eq_none (by omega)]
  rw [hl]
  exact hF _

theorem ran_row {S : Nat → Prop} {w w' : World} {b : Nat} {bs : List Nat} (ho : Own S w bs) (hb : b ∈ bs) (hg : w.grownBy w' (some b) ∧ w.drawn ≤ w'.drawn) : Ran S w bs S w' bs :=
  ⟨hg.1.os, hg.1.tape, ⟨hg.1.output, hg.2⟩, hg.1.size, fun k hk hn => hg.1.block k hk (fun e => hn (by cases e; exact hb)), fun _ h => h, fun _ h => .inl h, fun _ h => .inl h, fun k hk => ⟨Nat.lt_of_lt_of_le (ho.old k hk).1 hg.1.size, (ho.old k hk).2⟩, ho.nd, fun k hk => Nat.lt_of_lt_of_le (ho.sb k hk) hg.1.size⟩

def insL {α : Type} (le : α → α → Bool) (x : α) : List α → List α
  | [] => [x]
  | y :: r => if le x y then x :: y :: r else y :: insL le x r
def isort {α : Type} (le : α → α → Bool) : List α → List α
  | [] => []
  | x :: r => insL le x (isort le r)

section
variable {α : Type} {le : α → α → Bool}
theorem insL_perm (x : α) : ∀ l : List α, (insL le x l).Perm (x :: l)
  | [] => .refl _
  | y :: r => by
    rw [insL]
    split
    · exact .refl _
    · exact ((insL_perm x r).cons y).trans (List.Perm.swap x y r)
theorem isort_perm : ∀ l : List α, (isort le l).Perm l
  | [] => .refl _
  | x :: r => (insL_perm x _).trans ((isort_perm r).cons x)
theorem insL_sorted (htr : ∀ a b c, le a b = true → le b c = true → le a c = true) (hto : ∀ a b, le a b = true ∨ le b a = true) (x : α) : ∀ l : List α, l.Pairwise (fun a b => le a b = true) → (insL le x l).Pairwise (fun a b => le a b = true)
  | [], _ => by simp [insL]
  | y :: r, h => by
    obtain ⟨h1, h2⟩ := List.pairwise_cons.1 h
    rw [insL]
    split
    · rename_i hxy
      refine List.pairwise_cons.2 ⟨fun z hz => ?_, h⟩
      rcases List.mem_cons.1 hz with rfl | hz
      · exact hxy
      · exact htr _ _ _ hxy (h1 z hz)
    · rename_i hxy
      refine List.pairwise_cons.2 ⟨fun z hz => ?_, insL_sorted htr hto x r h2⟩
      rcases List.mem_cons.1 ((insL_perm x r).mem_iff.1 hz) with rfl | hz
      · exact (hto _ _).resolve_left hxy
      · exact h1 z hz
theorem isort_sorted (htr : ∀ a b c, le a b = true → le b c = true → le a c = true) (hto : ∀ a b, le a b = true ∨ le b a = true) : ∀ l : List α, (isort le l).Pairwise (fun a b => le a b = true)
  | [] => .nil
  | x :: r => insL_sorted htr hto x _ (isort_sorted htr hto r)
theorem sorted_unique' (han : ∀ a b, le a b = true → le b a = true → a = b) : ∀ {l m : List α}, l.Perm m → l.Pairwise (fun a b => le a b = true) → m.Pairwise (fun a b => le a b = true) → l = m
  | [], m, h, _, _ => by rw [List.nil_perm.1 h]
  | x :: l, [], h, _, _ => absurd h.length_eq (by simp)
  | x :: l, y :: m, h, hl, hm => by
    obtain ⟨l1, l2⟩ := List.pairwise_cons.1 hl
    obtain ⟨m1, m2⟩ := List.pairwise_cons.1 hm
    have hxy : x = y := by
      have hx : x ∈ y :: m := h.mem_iff.1 (by simp)
      have hy : y ∈ x :: l := h.mem_iff.2 (by simp)
      rcases List.mem_cons.1 hx with e | hx
      · exact e
      · rcases List.mem_cons.1 hy with e | hy
        · exact e.symm
        · exact han _ _ (l1 y hy) (m1 x hx)
    subst hxy
    rw [sorted_unique' han (List.perm_cons x |>.1 h) l2 m2]
theorem isort_merge (htr : ∀ a b c, le a b = true → le b c = true → le a c = true) (hto : ∀ a b, le a b = true ∨ le b a = true) (han : ∀ a b, le a b = true → le b a = true → a = b) (l : List α) : l.mergeSort le = isort le l :=
  sorted_unique' han ((List.mergeSort_perm l le).trans (isort_perm l).symm) (List.pairwise_mergeSort htr (fun a b => by simpa using hto a b) l) (isort_sorted htr hto l)
end

section
variable {P : Program} {ρ : Ren}

/-- A row that was given back. -/
theorem row_ent {S : Nat → Prop} {w w' : World} {p : At} {e : Ty} {ys : List e.den} {bs : List Nat} (ho : Own S w bs) (e2 : bs = cond p.nl [] [p.b]) (hnl : p.nl = false) (hr : RowAt S w' p e ys) (hg : w.grownBy w' (some p.b) ∧ w.drawn ≤ w'.drawn) {r : Fs} {z : (Fs.ty r).den} {vr : List Value} (hrest : ShX S w' true (Fs.sh r) z vr []) :
    Ran S w bs S w' ([] ++ bs) ∧ ShX S w' true (Fs.sh ((.own e, true) :: r)) (ys, z) (rowVal p :: vr) bs := by
  refine ⟨ran_row ho (by rw [e2, hnl]; simp) hg, rowVal p, vr, bs, [], rfl, by simp, ⟨p, rfl, hr, e2⟩, hrest⟩

def leI (a b : Int) : Bool := decide (a ≤ b)

theorem flat_one : ∀ l : List Int, (List.map (fun z : Int => [Value.int .i64 z]) l).flatten = l.map (Value.int .i64)
  | [] => rfl
  | a :: l => by rw [List.map_cons, List.flatten_cons, flat_one l]; rfl

theorem sortInt_core (L : SlLaysN.n53 P ρ) {S : Nat → Prop} {w : World} {vs : List Value} {x : (Fs.ty [(.own (.int .i64), true)]).den} {bs : List Nat} (ho : Own S w bs) (hx : ShX S w true (Fs.sh [(.own (.int .i64), true)]) x vs bs) (hlen : x.1.length ≤ 1000) :
    Calls P (ρ.f 53) vs.toArray w fun
      | .returned v, w' => ∃ S' b1 b2, Ran S w bs S' w' (b1 ++ b2) ∧ ShR S' w' .nix () v b1 ∧ ShX S' w' true (Fs.sh [(.own (.int .i64), true)]) (isort leI x.1, ()) vs b2
      | _, _ => False := by
  obtain ⟨v, r, b1, b2, rfl, rfl, ⟨p, e1, hrow, e2⟩, rfl, rfl⟩ := hx
  simp only [List.cons.injEq, and_true] at e1
  subst e1
  have hm : x.1.mergeSort (fun x y => decide (x ≤ y)) = isort leI x.1 :=
    isort_merge (le := leI) (fun a b c h1 h2 => by simp only [leI, decide_eq_true_eq] at *; omega) (fun a b => by simp only [leI, decide_eq_true_eq]; omega) (fun a b h1 h2 => by simp only [leI, decide_eq_true_eq] at *; omega) x.1
  cases hnl : p.nl with
  | true =>
    obtain ⟨hn, hr⟩ := hrow
    obtain ⟨-, hxs, hcap⟩ : p.nl = true ∧ x.1 = [] ∧ p.cap = 0 := by
      rcases hr with h | ⟨h, _⟩
      · exact h
      · rw [hnl] at h; cases h
    have e : rowVal p = .slice none 0 p.cap := by unfold rowVal; rw [hnl, hn, hxs]; rfl
    refine (show Calls P (ρ.f 53) #[rowVal p] w _ from e ▸ (AnyG.slices_Sort_int_none L none p.cap w).mono ?_)
    rintro en w' ⟨rfl, rfl⟩
    refine ⟨S, [], b1 ++ [], ho.refl, rfl, ?_⟩
    refine ⟨_, [], b1, [], rfl, rfl, ⟨p, by rw [e], ⟨hn.trans (by rw [hxs]; rfl), .inl ⟨hnl, by rw [hxs]; rfl, hcap⟩⟩, e2⟩, rfl, rfl⟩
  | false =>
    obtain ⟨cs, ty, h1, hn, h2, h3, h4, h5⟩ := hrow.cells hnl
    have hlt : p.b < w.heap.size := (Array.getElem?_eq_some_iff.1 h1).1
    have hbm : p.b ∈ b1 ++ [] := by rw [e2, hnl]; simp
    have h5' : RepRow (fun x c => c = (fun z => [Value.int .i64 z]) x) x.1 ((cs.drop p.o).take (x.1.length * 1)) := h5.imp fun z c h => h
    have hcells := rr_eq h5'
    have hmap := flat_one x.1
    rw [hmap, Nat.mul_one] at hcells
    have hle : p.o + x.1.length ≤ cs.length := by
      have : p.o + p.cap * 1 ≤ cs.length := h4
      omega
    have hid : Holds id w p.b p.o (x.1.map (Value.int .i64)).toArray := holds_id h1 (by simpa using hcells.symm) (by simpa using hle)
    have hH : Holds (Value.int .i64) w p.b p.o x.1.toArray := by
      intro j hj
      have := hid j (by simpa using hj)
      refine ⟨this.1.trans ?_, this.2⟩
      have hj' : j < x.1.length := by simpa using hj
      simp [hj']
    have e : rowVal p = .slice (some ⟨p.b, p.o, none⟩) x.1.length p.cap := by unfold rowVal; rw [hnl, hn]; rfl
    refine (show Calls P (ρ.f 53) #[rowVal p] w _ from e ▸ (AnyG.slices_Sort_int L p.b p.o p.cap x.1 w hH hlt (by omega)).mono ?_)
    rintro en w' ⟨rfl, n, os, rfl⟩
    have hput : putRow (Value.int .i64) (Sort.ahead w n) p.b p.o (x.1.mergeSort fun x y => decide (x ≤ y)).toArray = putRow id (Sort.ahead w n) p.b p.o ((isort leI x.1).map (Value.int .i64)).toArray := by
      rw [hm]
      unfold putRow
      congr 1
      funext c
      unfold putCells
      refine Array.ext_getElem? fun t => ?_
      simp only [Array.getElem?_mapIdx, List.size_toArray, List.length_map]
      congr 1
      funext z
      by_cases ht : p.o ≤ t ∧ t < p.o + (isort leI x.1).length
      · rw [if_pos ht, if_pos ht]
        have h7 : t - p.o < (isort leI x.1).length := by omega
        simp [h7]
      · rw [if_neg ht, if_neg ht]
    rw [hput]
    have hyl : (isort leI x.1).length = x.1.length := (isort_perm x.1).length_eq
    obtain ⟨g1, g2⟩ := rowAt_put (n := n) (os := os) (ys := isort leI x.1) (F := ((isort leI x.1).map (Value.int .i64)).toArray) hrow hnl hyl (by simp [Ty.size]) (fun b hb => ⟨ho.sb b hb, fun e => (ho.old p.b hbm).2 (e ▸ hb)⟩) (fun w' => by
      have : RepRow (fun x c => c = (fun z => [Value.int .i64 z]) x) (isort leI x.1) (List.map (fun z : Int => [Value.int .i64 z]) (isort leI x.1)).flatten := rr_flat _
      have hm2 := flat_one (isort leI x.1)
      rw [hm2] at this
      exact this.imp fun z c h => h)
    exact ⟨S, [], b1 ++ [], (row_ent ho (by rw [e2]; simp) hnl g1 g2 (r := []) (z := ()) (vr := []) ⟨rfl, rfl⟩).1, rfl, by rw [← e]; exact (row_ent ho (by rw [e2]; simp) hnl g1 g2 (r := []) (z := ()) (vr := []) ⟨rfl, rfl⟩).2⟩
theorem sortInt_ent (L : SlLaysN.n53 P ρ) (hb : ∃ fn c, P.funcs[ρ.f 53]? = some fn ∧ fn.body = some c ∧ (fn.name == "runtime.NumGoroutine") = false) :
    EntOk P (ρ.f 53) ⟨[(.own (.int .i64), true)], .nix, List Int, fun x => if x.1.length ≤ 1000 then some (isort leI x.1) else none, fun _ y => ((), (y, ())), false⟩ := by
  refine ⟨hb, ?_⟩
  intro S w vs x bs y ho hx hy
  have hy : (if x.1.length ≤ 1000 then some (isort leI x.1) else none) = some y := hy
  by_cases hlen : x.1.length ≤ 1000
  · rw [if_pos hlen] at hy; cases hy; exact sortInt_core L ho hx hlen
  · rw [if_neg hlen] at hy; cases hy
end

section
variable {P : Program} {ρ : Ren}

def cmpGo (p : Int) : List Int → List Int
  | [] => []
  | y :: r => if y = p then cmpGo p r else y :: cmpGo y r
def compactI : List Int → List Int
  | [] => []
  | x :: r => x :: cmpGo x r
theorem cmpGo_snoc (y : Int) : ∀ (l : List Int) (p : Int), cmpGo p (l ++ [y]) = cmpGo p l ++ if y = (p :: l).getLast (by simp) then [] else [y]
  | [], p => by by_cases h : y = p <;> simp [cmpGo, h]
  | z :: l, p => by
    rw [List.cons_append, cmpGo, cmpGo]
    by_cases h : z = p
    · rw [if_pos h, if_pos h, cmpGo_snoc y l p]
      congr 1
      cases l with
      | nil => subst h; rfl
      | cons a l => rfl
    · rw [if_neg h, if_neg h, cmpGo_snoc y l z, List.cons_append]
      rfl
theorem compactUpTo_eq (xs : List Int) : ∀ m, m ≤ xs.length → Go.Lib.compactUpTo xs.toArray m = compactI (xs.take m)
  | 0, _ => by simp [Go.Lib.compactUpTo, compactI]
  | m + 1, h => by
    have ih := compactUpTo_eq xs m (by omega)
    have hm : m < xs.length := by omega
    have e1 : Go.Lib.compactUpTo xs.toArray (m + 1) = Go.Lib.compactUpTo xs.toArray m ++ if Go.Lib.keeps xs.toArray m then [xs.toArray[m]!] else [] := by
      unfold Go.Lib.compactUpTo
      rw [List.range_succ, List.filter_append, List.map_append]
      congr 1
      cases hk : Go.Lib.keeps xs.toArray m <;> simp [hk]
    rw [e1, ih, List.take_add_one, List.getElem?_eq_getElem hm]
    have hx : xs.toArray[m]! = xs[m] := by simp [hm]
    rw [hx]
    cases ht : xs.take m with
    | nil =>
      have : m = 0 := by
        have := congrArg List.length ht
        rw [List.length_take, List.length_nil] at this
        omega
      subst this
      simp [Go.Lib.keeps, compactI, cmpGo]
    | cons a l =>
      show compactI (a :: l) ++ _ = compactI (a :: (l ++ [xs[m]]))
      rw [compactI, compactI, cmpGo_snoc, List.cons_append]
      congr 2
      have hm0 : 0 < m := by
        rcases Nat.eq_zero_or_pos m with h0 | h0
        · subst h0; simp at ht
        · exact h0
      have hlast : (a :: l).getLast (by simp) = xs[m - 1] := by
        have : (xs.take m).getLast (by rw [ht]; simp) = xs[m - 1] := by
          rw [List.getLast_eq_getElem, List.getElem_take]
          congr 1
          rw [List.length_take]
          omega
        simpa [ht] using this
      rw [hlast]
      have hk : Go.Lib.keeps xs.toArray m = decide (xs[m] ≠ xs[m - 1]) := by
        unfold Go.Lib.keeps
        have h1 : xs.toArray[m]! = xs[m] := hx
        have h2 : xs.toArray[m - 1]! = xs[m - 1] := by simp [show m - 1 < xs.length by omega]
        rw [h1, h2]
        have : ¬ m = 0 := by omega
        simp [this]
      rw [hk]
      by_cases h3 : xs[m] = xs[m - 1]
      · simp [h3]
      · simp [h3]

theorem RowAt.first {S : Nat → Prop} {w : World} {p : At} {e : Ty} {xs : List e.den} (h : RowAt S w p e xs) (hnl : p.nl = false) (m : Nat) (hm : m ≤ xs.length) : RowAt S w ⟨p.b, m, p.o, p.cap, false⟩ e (xs.take m) := by
  obtain ⟨cs, ty, h1, hn, h2, h3, h4, h5⟩ := h.cells hnl
  have hl : (xs.take m).length = m := by simp; omega
  refine ⟨hl.symm, .inr ⟨rfl, cs, ty, h1, by rw [hl]; exact Nat.le_trans hm h2, h3, h4, ?_⟩⟩
  have := RepRow.take (R := Rep S w e) (n := e.size) (fun x c h => Rep.length h) m h5
  rw [List.take_take] at this
  rw [hl]
  rwa [Nat.min_eq_left (Nat.mul_le_mul_right _ hm)] at this

theorem compactUpTo_le (d : Array Int) (m : Nat) : (Go.Lib.compactUpTo d m).length ≤ m := by
  unfold Go.Lib.compactUpTo
  rw [List.length_map]
  exact Nat.le_trans (List.length_filter_le _ _) (by simp)

/-- 'none': a nil slice. -/
theorem compact_ent (L : SlLaysE.n43 P ρ) (hb : ∃ fn c, P.funcs[ρ.f 43]? = some fn ∧ fn.body = some c ∧ (fn.name == "runtime.NumGoroutine") = false) (v23 : ∀ w, (zeroValue (ρ.t 23)).run P w = .ok (.int .i64 0) w)
    (hnil : ∀ w, Calls P (ρ.f 43) #[.slice none 0 0] w fun e w' => e = .returned (.slice none 0 0) ∧ w' = w) :
    EntOk P (ρ.f 43) ⟨[(.own (.int .i64), false)], .own (.int .i64), List Int, fun x => if x.1.length ≤ 1000 then some (compactI x.1) else none, fun _ y => (y, ()), true⟩ := by
  refine ⟨hb, ?_⟩
  intro S w vs x bs y ho hx hy
  have hy : (if x.1.length ≤ 1000 then some (compactI x.1) else none) = some y := hy
  have hlen : x.1.length ≤ 1000 := by
    by_cases hlen : x.1.length ≤ 1000
    · exact hlen
    · rw [if_neg hlen] at hy; cases hy
  rw [if_pos hlen] at hy
  cases hy
  obtain ⟨v, r, b1, b2, rfl, rfl, ⟨p, e1, hrow, e2⟩, rfl, rfl⟩ := hx
  simp only [List.cons.injEq, and_true] at e1
  subst e1
  have key : Calls P (ρ.f 43) #[rowVal p] w fun
      | .returned v, w' => ∃ S' c1, Ran S w (b1 ++ []) S' w' c1 ∧ ShR S' w' (.own (.int .i64)) (compactI x.1) v c1
      | _, _ => False := by
    cases hnl : p.nl with
    | true =>
      obtain ⟨hn, hr⟩ := hrow
      obtain ⟨-, hxs, hcap⟩ : p.nl = true ∧ x.1 = [] ∧ p.cap = 0 := by
        rcases hr with h | ⟨h, _⟩
        · exact h
        · rw [hnl] at h; cases h
      have e : rowVal p = .slice none 0 0 := by unfold rowVal; rw [hnl, hn, hxs, hcap]; rfl
      rw [e]
      refine (hnil w).mono ?_
      rintro en w' ⟨rfl, rfl⟩
      refine ⟨S, b1 ++ [], ho.refl, ?_⟩
      refine ⟨p, by rw [e], ⟨hn.trans (by rw [hxs]; rfl), .inl ⟨hnl, by rw [hxs]; rfl, hcap⟩⟩, by rw [e2]; simp⟩
    | false =>
      obtain ⟨cs, ty, h1, hn, h2, h3, h4, h5⟩ := hrow.cells hnl
      have hbm : p.b ∈ b1 ++ [] := by rw [e2, hnl]; simp
      have h5' : RepRow (fun x c => c = (fun z => [Value.int .i64 z]) x) x.1 ((cs.drop p.o).take (x.1.length * 1)) := h5.imp fun z c h => h
      have hcells := rr_eq h5'
      have hmap := flat_one x.1
      rw [hmap, Nat.mul_one] at hcells
      have hle : p.o + x.1.length ≤ cs.length := by
        have : p.o + p.cap * 1 ≤ cs.length := h4
        omega
      have hid : Holds id w p.b p.o (x.1.map (Value.int .i64)).toArray := holds_id h1 (by simpa using hcells.symm) (by simpa using hle)
      have hH : Holds (Value.int .i64) w p.b p.o x.1.toArray := by
        intro j hj
        have := hid j (by simpa using hj)
        refine ⟨this.1.trans ?_, this.2⟩
        have hj' : j < x.1.length := by simpa using hj
        simp [hj']
      have e : rowVal p = .slice (some ⟨p.b, p.o, none⟩) x.1.toArray.size p.cap := by unfold rowVal; rw [hnl, hn]; simp
      rw [e]
      refine (AnyE.slices_Compact L (Value.int .i64) (fun _ => rfl) (EqlAt.intD _ _ _) (NeqAt.intD _ _ _) 0 v23 p.b p.o p.cap x.1.toArray w hH (by simp; omega) (by simpa using h2)).mono ?_
      rintro en w' ⟨rfl, n, rfl⟩
      have hc : Go.Lib.compactUpTo x.1.toArray x.1.toArray.size = compactI x.1 := by
        have := compactUpTo_eq x.1 x.1.length (Nat.le_refl _)
        rw [List.take_length] at this
        simpa using this
      have hcl : (compactI x.1).length ≤ x.1.length := by rw [← hc]; simpa using compactUpTo_le x.1.toArray x.1.toArray.size
      rw [hc]
      obtain ⟨F, hF⟩ : ∃ F, compactI x.1 ++ List.replicate (x.1.toArray.size - (compactI x.1).length) 0 = F := ⟨_, rfl⟩
      rw [hF]
      have hFl : F.length = x.1.length := by rw [← hF]; simp; omega
      have hput : putRow (Value.int .i64) (Sort.ahead w n) p.b p.o F.toArray = grow (putRow id (Sort.ahead w n) p.b p.o (F.map (Value.int .i64)).toArray) #[] := by
        rw [grow_empty]
        unfold putRow
        congr 1
        funext c
        unfold putCells
        refine Array.ext_getElem? fun t => ?_
        simp only [Array.getElem?_mapIdx, List.size_toArray, List.length_map]
        congr 1
        funext z
        by_cases ht : p.o ≤ t ∧ t < p.o + F.length
        · rw [if_pos ht, if_pos ht]
          have h7 : t - p.o < F.length := by omega
          simp [h7]
        · rw [if_neg ht, if_neg ht]
      rw [hput]
      obtain ⟨g1, g2⟩ := rowAt_put (e := .int .i64) (n := n) (os := #[]) (ys := F) (F := (F.map (Value.int .i64)).toArray) hrow hnl hFl (by simp [Ty.size]) (fun b hb => ⟨ho.sb b hb, fun e => (ho.old p.b hbm).2 (e ▸ hb)⟩) (fun w' => by
        have : RepRow (fun x c => c = (fun z => [Value.int .i64 z]) x) F (List.map (fun z : Int => [Value.int .i64 z]) F).flatten := rr_flat _
        rw [flat_one] at this
        exact this.imp fun z c h => h)
      have g3 := g1.first hnl (compactI x.1).length (by rw [hFl]; exact hcl)
      have ht : F.take (compactI x.1).length = compactI x.1 := by rw [← hF]; simp
      rw [ht] at g3
      exact ⟨S, b1 ++ [], ran_row ho hbm g2, ⟨p.b, (compactI x.1).length, p.o, p.cap, false⟩, rfl, g3, by rw [e2, hnl]; simp⟩
  exact key

end

theorem Ran.grown {S S' : Nat → Prop} {w w' : World} {bs' : List Nat} (h : Ran S w [] S' w' bs') : ∃ q os, w' = grow (w.drewN q) os := by
  obtain ⟨h1, h2⟩ := h.output
  have h2 : w.drawn ≤ w'.drawn := h2
  have hs := h.size
  refine ⟨w'.drawn - w.drawn, w'.heap.extract w.heap.size, ?_⟩
  have e1 : w'.heap = w.heap ++ w'.heap.extract w.heap.size := by
    refine Array.ext_getElem? fun i => ?_
    rw [Array.getElem?_append]
    by_cases hi : i < w.heap.size
    · rw [if_pos hi]; exact h.same i hi (by simp)
    · rw [if_neg hi]
      simp only [Array.getElem?_extract]
      by_cases h3 : i < w'.heap.size
      · rw [if_pos (by omega)]
        congr 1
        omega
      · rw [if_neg (by omega), Array.getElem?_eq_none (by omega)]
  have e2 : w'.drawn = w.drawn + (w'.drawn - w.drawn) := by omega
  obtain ⟨heap, tape, drawn, os, output⟩ := w'
  have g1 : tape = w.tape := h.tape
  have g2 : os = w.os := h.os
  have g3 : output = w.output := h1
  have e1 : heap = w.heap ++ heap.extract w.heap.size := e1
  have e2 : drawn = w.drawn + (drawn - w.drawn) := e2
  subst g1 g2 g3
  show (⟨heap, w.tape, drawn, w.os, w.output⟩ : World) = ⟨w.heap ++ heap.extract w.heap.size, w.tape, w.drawn + (drawn - w.drawn), w.os, w.output⟩
  rw [← e1, ← e2]

theorem EntOk.cmp {P : Program} {f : Nat} {e : Ty} {fn : (Fs.ty [(.dat e, false), (.dat e, false)]).den → Option Int} (h : EntOk P f ⟨[(.dat e, false), (.dat e, false)], .dat (.int .i64), Int, fn, fun _ y => (y, ()), false⟩) (hp : e.plain = true) (hg : e.agg = true) {cf : e.den → e.den → Int}
    (hfn : ∀ x y, fn (x, y, ()) = some (cf x y)) (x y : e.den) (W : World) : Calls P f #[.agg (e.cells x).toArray, .agg (e.cells y).toArray] W fun en w' => en = .returned (.int .i64 (cf x y)) ∧ ∃ q os', w' = grow (W.drewN q) os' := by
  have hv : ∀ z : e.den, cond (Sh.dat e).agg (∃ cs : List Value, Value.agg (e.cells z).toArray = .agg cs.toArray ∧ ShX (fun _ => False) W false (.dat e) z cs []) (ShX (fun _ => False) W false (.dat e) z [Value.agg (e.cells z).toArray] []) := by
    intro z
    have : (Sh.dat e).agg = true := hg
    rw [this]
    exact ⟨_, rfl, (Ty.cells_iff hp).2 rfl, rfl⟩
  refine (h.2 (fun _ => False) W [.agg (e.cells x).toArray, .agg (e.cells y).toArray] (x, y, ()) [] (cf x y) ⟨fun b hb => (by cases hb), List.nodup_nil, fun b hb => hb.elim, fun q hq => by simp [glob] at hq⟩ ⟨_, _, [], [], rfl, rfl, hv x, _, _, [], [], rfl, rfl, hv y, rfl, rfl⟩ (hfn x y)).mono ?_
  rintro en w' hen
  cases en with
  | returned v =>
    obtain ⟨S', b1, b2, hran, hres, _⟩ := hen
    have h1 : [v] = [Value.int .i64 (cf x y)] := hres.1
    cases h1
    exact ⟨rfl, hran.grown⟩
  | panicked c => exact hen.elim
  | outgrown => exact hen.elim

end Go.Pv

/- The library's Delete at rows of structs of numbers. -/
set_option linter.unusedVariables false
set_option linter.unusedSimpArgs false
set_option linter.unusedSectionVars false
namespace Go.Pv
open Go.Sort Go.Shelf Go.Proofs Go.RowKit Go.Lib

theorem run_clear_k {P : Program} (w : World) (t e ty : TypeId) (z zc : Value) (k : Nat) (hk : 0 < k) (ht : P.underlying t = some (.slice e)) (hv : ∀ w, (zeroValue e).run P w = .ok z w) (hz : z.cells = Array.replicate k zc) (h1 : zc.oneCell' = true) (b o n c : Nat) (hn : 0 < n)
    (hc : ∀ j, j < n * k → (w.cell? ⟨b, o + j, none⟩).isSome = true) (hf : ∀ j, j < n * k → w.frozen? ⟨b, o + j, none⟩ = false) :
    (Builtin.clear_ #[t] ty #[.slice (some ⟨b, o, none⟩) n c]).run P w = .ok (.tuple #[]) (w.setCells b o (List.replicate (n * k) zc)) := by
  have hzc : (Builtin.zeroCells z.cells n).toList = List.replicate (n * k) zc := by
    rw [hz]
    simp [Builtin.zeroCells]
    apply List.ext_getElem
    · simp
    · intro i h1 h2
      have : i % k < k := Nat.mod_lt _ hk
      simp [this]
  have hst := run_storeCells_cells (P := P) b o (List.replicate (n * k) zc) 0 w (by simpa using hc) (by simpa using hf) (by intro v hv'; rw [List.eq_of_mem_replicate hv']; exact h1)
  simp only [Nat.add_zero] at hst
  obtain ⟨m, rfl⟩ : ∃ m, n = m + 1 := ⟨n - 1, by omega⟩
  simp [Builtin.clear_, run_underlying ht, hv, hzc, hst]

set_option maxHeartbeats 4000000 in
set_option maxRecDepth 1000000 in
theorem delete_cells {P : Program} {ρ : Ren} (L : SlLaysE0.n45 P ρ) (k : Nat) (hk : 0 < k) (z zc : Value) (hz : z.cells = Array.replicate k zc) (hzc : zc.oneCell' = true) (v23 : ∀ w, (zeroValue (ρ.t 23)).run P w = .ok z w) (z23 : ∀ w, (Go.sizeOf (ρ.t 23)).run P w = .ok k w)
    (i0 : TypeInfo) (hi0 : P.info? (ρ.t 23) = some i0) (hz1 : i0.size = k) (blk off cap i j n : Nat) (d : Array Value) (h1 : ∀ v ∈ d, v.oneCell' = true) (hds : d.size = n * k) (w : World) (hH : Holds id w blk off d) (hcap : n ≤ cap) (hm : cap ≤ 9223372036854775807) (hij : i ≤ j) (hj : j ≤ n) :
    Calls P (ρ.f 45) #[.slice (some ⟨blk, off, none⟩) n cap, .int .i64 i, .int .i64 j] w fun e w' => e = .returned (.slice (some ⟨blk, off, none⟩) (n - (j - i)) cap) ∧ ∃ q, w' = putRow id (Sort.ahead w q) blk off (d.toList.take (i * k) ++ d.toList.drop (j * k) ++ List.replicate (j * k - i * k) zc).toArray := by
  have mixed := L.mixed; have t0 := L.t0; have a0 := L.a0; have z0 := L.z0; have v0 := L.v0; have t3 := L.t3; have a3 := L.a3; have z3 := L.z3; have v3 := L.v3; have t4 := L.t4; have a4 := L.a4; have z4 := L.z4; have v4 := L.v4; have t22 := L.t22; have a22 := L.a22; have z22 := L.z22; have v22 := L.v22
  have hik : i * k ≤ j * k := Nat.mul_le_mul_right _ hij
  have hjk : j * k ≤ d.size := by rw [hds]; exact Nat.mul_le_mul_right _ hj
  by_cases heq : i = j
  · subst heq
    have h0 : Calls P (ρ.f 45) #[.slice (some ⟨blk, off, none⟩) n cap, .int .i64 i, .int .i64 i] w fun e w' => e = .returned (.slice (some ⟨blk, off, none⟩) n cap) ∧ w' = w := by
      clear hH
      obtain ⟨_, _, FG⟩ := L.f45
      go_enter FG, SlBodyN.n45_ntmps ρ
      go_wp2
      all_goals (go_ret; exact ⟨rfl, rfl⟩)
    refine h0.mono ?_
    rintro e w' ⟨rfl, rfl⟩
    have e : (d.toList.take (i * k) ++ d.toList.drop (i * k) ++ List.replicate (i * k - i * k) zc).toArray = d := by simp
    refine ⟨by rw [Nat.sub_self, Nat.sub_zero], 0, ?_⟩
    rw [e]
    exact (putRow_self id (Sort.ahead w' 0) blk off d hH).symm
  · have hlt : i < j := by omega
    have hltk : i * k < j * k := Nat.mul_lt_mul_of_pos_right hlt hk
    obtain ⟨news, hnews⟩ : ∃ news, news = d.toList.drop (j * k) := ⟨_, rfl⟩
    have hlen : news.length = d.size - j * k := by rw [hnews]; simp
    have hget : ∀ t, t < d.size - j * k → news[t]? = some (d[j * k + t]!) := by
      intro t ht
      rw [hnews, List.getElem?_drop, Array.getElem?_toList, getElem!_pos d (j * k + t) (by omega), Array.getElem?_eq_getElem (by omega)]
    obtain ⟨A, hA, hsrc⟩ : ∃ A : Addr, (if cap = j then (some ⟨blk, off, none⟩ : Option Addr) else some ⟨blk, off + j * k, none⟩) = some A ∧ Hid (∀ t u, news[t]? = some u → w.drew.cell? (A.add t) = some u) := by
      by_cases h : cap = j
      · refine ⟨⟨blk, off, none⟩, by simp [h], fun t u hu => ?_⟩
        have h0 : news.length = 0 := by
          have : n * k ≤ j * k := Nat.mul_le_mul_right _ (by omega)
          rw [hlen]; omega
        rw [List.length_eq_zero_iff.1 h0] at hu
        simp at hu
      · refine ⟨⟨blk, off + j * k, none⟩, by simp [h], fun t u hu => ?_⟩
        have ht : t < d.size - j * k := by
          have := (List.getElem?_eq_some_iff.1 hu).1
          rwa [hlen] at this
        rw [hget t ht] at hu
        rw [Addr.add_lit, show off + j * k + t = off + (j * k + t) by omega]
        exact (hH (j * k + t) (by omega)).1.trans hu
    have s1 : Hid (news.length = (n - j) * k) := by show _ = _; rw [hlen, hds, Nat.sub_mul]
    have s2 : Hid (∀ u ∈ news, u.oneCell' = true) := by
      intro u hu
      rw [hnews] at hu
      exact h1 u (by simpa using List.mem_of_mem_drop hu)
    have s3 : Hid (∀ t, t < news.length → (w.drew.cell? ⟨blk, off + i * k + t, none⟩).isSome = true ∧ w.drew.frozen? ⟨blk, off + i * k + t, none⟩ = false) := by
      intro t ht
      rw [hlen] at ht
      rw [Nat.add_assoc]
      exact ⟨by show (w.cell? _).isSome = true; rw [(hH (i * k + t) (by omega)).1]; rfl, (hH (i * k + t) (by omega)).2⟩
    obtain ⟨W1, hW1⟩ : ∃ W1, W1 = w.drew.setCells blk (off + i * k) news := ⟨_, rfl⟩
    have hW1' : W1 = putRow id (Sort.ahead w 1) blk off (lay d (i * k) (d.toList.drop (j * k))) := by
      rw [hW1, hnews, ← putRow_setCells id (Sort.ahead w 1) blk off _ d (i * k) (by simp; omega), putRow_self id (Sort.ahead w 1) blk off d (holds_ahead id w 1 blk off d hH), List.map_id]
      rfl
    have hH1 : Holds id W1 blk off (lay d (i * k) (d.toList.drop (j * k))) := by rw [hW1']; exact holds_putRow id _ blk off d _ (holds_ahead id w 1 blk off d hH) (lay_size _ _ _)
    have hij2 : (i + (n - j)) * k = i * k + (d.size - j * k) := by rw [Nat.add_mul, Nat.sub_mul, hds]
    have hn3 : (n - (i + (n - j))) * k = j * k - i * k := by rw [Nat.sub_mul, hij2, hds] ; rw [hds] at hjk; omega
    have hcl : ∀ ty, (Builtin.clear_ #[ρ.t 22] ty #[.slice (some ⟨blk, off + (i + (n - j)) * k, none⟩) (n - (i + (n - j))) (cap - (i + (n - j)))]).run P W1 = .ok (.tuple #[]) (W1.setCells blk (off + (i + (n - j)) * k) (List.replicate ((n - (i + (n - j))) * k) zc)) :=
      fun ty => run_clear_k W1 _ _ ty _ _ k hk t22 v23 hz hzc blk (off + (i + (n - j)) * k) _ _ (by omega) (fun t ht => by rw [hn3] at ht; rw [hij2, show off + (i * k + (d.size - j * k)) + t = off + (i * k + (d.size - j * k) + t) by omega, (hH1 _ (by rw [lay_size]; omega)).1]; rfl) (fun t ht => by rw [hn3] at ht; rw [hij2, show off + (i * k + (d.size - j * k)) + t = off + (i * k + (d.size - j * k) + t) by omega]; exact (hH1 _ (by rw [lay_size]; omega)).2)
    have X : Aside (W1 = putRow id (Sort.ahead w 1) blk off (lay d (i * k) (d.toList.drop (j * k)))) := hW1'
    have X2 : Aside ((i + (n - j)) * k = i * k + (d.size - j * k)) := hij2
    have X3 : Aside ((n - (i + (n - j))) * k = j * k - i * k) := hn3
    have X4 : Aside (j * k ≤ d.size) := hjk
    have X5 : Aside (i * k < j * k) := hltk
    have hW : Hid (W1 = w.drew.setCells blk (off + i * k) news) := hW1
    have hic : i ≤ cap := by omega
    have hjc : j ≤ cap := by omega
    clear hW1 hW1' hH1 hH hget hnews hlen hij2 hn3 hjk hik hltk hds
    obtain ⟨_, _, FG⟩ := L.f45
    go_enter FG, SlBodyN.n45_ntmps ρ
    go_wp2_with fail
    go_region_law_o (refine step_append_room rfl (.tmp 22) (.tmp 25) (ρ.t 22) rfl (ρ.t 23) i0 k t22 hi0 hz1 blk off i cap (by simp [Act.eval, Act.put]) A (n - j) (cap - j) news (by simp [Act.eval, Act.put, hA]) s1.out hsrc.out s2.out (by omega) s3.out ?_; rw [← hW.out])
    go_wp2
    go_ret
    refine ⟨by rw [show n - (j - i) = i + (n - j) by omega]; rfl, 1, ?_⟩
    have x2 := X2.out
    have x3 := X3.out
    have x4 := X4.out
    have x5 := X5.out
    rw [← delete_arr d (i * k) (j * k) zc (by omega) x4, ← x2, ← x3]
    rw [← putRow_setCells id _ blk off _ _ ((i + (n - j)) * k) (by rw [lay_size, List.length_replicate]; omega), ← X.out, List.map_id]

theorem putRow_id {w : World} {n b o : Nat} {F : Array Value} : putRow id (Sort.ahead w n) b o F = grow (putRow id (Sort.ahead w n) b o F) #[] := (grow_empty _).symm

/-- Delete at rows of plain data. 'hnil': a nil slice. -/
theorem delete_ent {P : Program} {ρ : Ren} (L : SlLaysE0.n45 P ρ) (hb : ∃ fn c, P.funcs[ρ.f 45]? = some fn ∧ fn.body = some c ∧ (fn.name == "runtime.NumGoroutine") = false) {e : Ty} (hp : e.plain = true) [Inhabited e.den] (hk : 0 < e.size)
    (z zc : Value) (hz : z.cells = Array.replicate e.size zc) (hzc : zc.oneCell' = true) (hzd : e.cells e.dflt = List.replicate e.size zc) (v23 : ∀ w, (zeroValue (ρ.t 23)).run P w = .ok z w) (z23 : ∀ w, (Go.sizeOf (ρ.t 23)).run P w = .ok e.size w)
    (hi : (P.info? (ρ.t 23)).map (fun i => i.size) = some e.size)
    (hnil : ∀ w, Calls P (ρ.f 45) #[.slice none 0 0, .int .i64 0, .int .i64 0] w fun e w' => e = .returned (.slice none 0 0) ∧ w' = w) :
    EntOk P (ρ.f 45) ⟨[(.own e, false), (.dat (.int .i64), false), (.dat (.int .i64), false)], .own e, List e.den, fun x => if 0 ≤ (x.2.1 : Int) ∧ (x.2.1 : Int) ≤ (x.2.2.1 : Int) ∧ (x.2.2.1 : Int) ≤ (x.1.length : Int) then some (x.1.take (x.2.1 : Int).toNat ++ x.1.drop (x.2.2.1 : Int).toNat) else none, fun _ y => (y, ()), true⟩ := by
  obtain ⟨i0, hi0, hz1⟩ := Option.map_eq_some_iff.1 hi
  refine ⟨hb, ?_⟩
  rintro S w vs ⟨xs, i0', j0', u⟩ bs y ho hx hy
  obtain ⟨i, hi1⟩ : ∃ i : Int, i = i0' := ⟨i0', rfl⟩
  obtain ⟨j, hj1⟩ : ∃ j : Int, j = j0' := ⟨j0', rfl⟩
  subst hi1 hj1
  have hy : (if 0 ≤ i ∧ i ≤ j ∧ j ≤ (xs.length : Int) then some (xs.take i.toNat ++ xs.drop j.toNat) else none) = some y := hy
  have hc : 0 ≤ i ∧ i ≤ j ∧ j ≤ (xs.length : Int) := by
    by_cases hc : 0 ≤ i ∧ i ≤ j ∧ j ≤ (xs.length : Int)
    · exact hc
    · rw [if_neg hc] at hy; cases hy
  rw [if_pos hc] at hy
  cases hy
  obtain ⟨v, r, b1, b2, rfl, rfl, ⟨p, e1, hrow, e2⟩, v2, r2, b3, b4, rfl, rfl, ⟨h2, rfl⟩, v3, r3, b5, b6, rfl, rfl, ⟨h3, rfl⟩, rfl, rfl⟩ := hx
  simp only [List.cons.injEq, and_true] at e1
  have h2 : [v2] = [Value.int .i64 i] := h2
  have h3 : [v3] = [Value.int .i64 j] := h3
  cases h2
  cases h3
  subst e1
  obtain ⟨i', hi'⟩ : ∃ i' : Nat, i = (i' : Int) := ⟨i.toNat, by omega⟩
  obtain ⟨j', hj'⟩ : ∃ j' : Nat, j = (j' : Int) := ⟨j.toNat, by omega⟩
  subst hi' hj'
  obtain ⟨-, c2, c3⟩ := hc
  have c2 : i' ≤ j' := by omega
  have c3 : j' ≤ xs.length := by omega
  show Calls P (ρ.f 45) #[rowVal p, .int .i64 (i' : Int), .int .i64 (j' : Int)] w fun
      | .returned v, w' => ∃ S' c1, Ran S w (b1 ++ ([] ++ ([] ++ []))) S' w' c1 ∧ ShR S' w' (.own e) (xs.take ((i' : Int)).toNat ++ xs.drop ((j' : Int)).toNat) v c1
      | _, _ => False
  simp only [Int.toNat_natCast]
  cases hnl : p.nl with
  | true =>
    obtain ⟨hn, hr⟩ := hrow
    obtain ⟨-, hxs, hcap⟩ : p.nl = true ∧ xs = [] ∧ p.cap = 0 := by
      rcases hr with h | ⟨h, _⟩
      · exact h
      · rw [hnl] at h; cases h
    subst hxs
    have q2 : j' = 0 := by simpa using c3
    subst q2
    have q1 : i' = 0 := by omega
    subst q1
    have e : rowVal p = .slice none 0 0 := by unfold rowVal; rw [hnl, hn, hcap]; rfl
    rw [e]
    refine (hnil w).mono ?_
    rintro en w' ⟨rfl, rfl⟩
    refine ⟨S, b1 ++ ([] ++ ([] ++ [])), ho.refl, ?_⟩
    exact ⟨p, by rw [e], ⟨hn, .inl ⟨hnl, rfl, hcap⟩⟩, by rw [e2]; simp⟩
  | false =>
    obtain ⟨cs, ty, h1, hn, h2, h3, h4, h5⟩ := hrow.cells hnl
    have hbm : p.b ∈ b1 ++ ([] ++ ([] ++ [])) := by rw [e2, hnl]; simp
    have h5' : RepRow (fun x c => c = e.cells x) xs ((cs.drop p.o).take (xs.length * e.size)) := h5.imp fun z c h => (Ty.cells_iff hp).1 h
    have hlen : ∀ x : e.den, (e.cells x).length = e.size := fun x => Ty.cells_len hp
    have hcl : (xs.map e.cells).flatten.length = xs.length * e.size := RepRow.length (R := fun x c => c = e.cells x) (fun x c h => by rw [h, hlen]) (rr_flat xs)
    have hle : p.o + xs.length * e.size ≤ cs.length := Nat.le_trans (Nat.add_le_add_left (Nat.mul_le_mul_right _ h2) _) h4
    have hid : Holds id w p.b p.o (xs.map e.cells).flatten.toArray := holds_id h1 (by rw [List.size_toArray, hcl]; exact (rr_eq h5').symm) (by rw [List.size_toArray, hcl]; exact hle)
    have ev : rowVal p = .slice (some ⟨p.b, p.o, none⟩) xs.length p.cap := by unfold rowVal; rw [hnl, hn]; rfl
    rw [ev]
    refine (delete_cells L e.size hk z zc hz hzc v23 z23 i0 hi0 hz1 p.b p.o p.cap i' j' xs.length (xs.map e.cells).flatten.toArray (fun v hv => by
      obtain ⟨c, hc1, hc2⟩ := List.mem_flatten.1 (List.mem_toArray.1 hv)
      obtain ⟨x, _, rfl⟩ := List.mem_map.1 hc1
      exact Ty.cells_one hp v hc2) (by rw [List.size_toArray, hcl]) w hid h2 (by unfold maxLen at h3; omega) c2 c3).mono ?_
    rintro en w' ⟨rfl, n, rfl⟩
    obtain ⟨ys, hys⟩ : ∃ ys, xs.take i' ++ xs.drop j' ++ List.replicate (j' - i') e.dflt = ys := ⟨_, rfl⟩
    have hyl : ys.length = xs.length := by rw [← hys]; simp; omega
    have hF : RepRow (fun x c => c = e.cells x) ys ((xs.map e.cells).flatten.toArray.toList.take (i' * e.size) ++ (xs.map e.cells).flatten.toArray.toList.drop (j' * e.size) ++ List.replicate (j' * e.size - i' * e.size) zc) := by
      rw [← hys, List.toList_toArray]
      have hr : RepRow (fun x c => c = e.cells x) (List.replicate (j' - i') e.dflt) (List.replicate (j' * e.size - i' * e.size) zc) := by
        have := RepRow.replicate (R := fun x c => c = e.cells x) (x := e.dflt) (c := e.cells e.dflt) rfl (j' - i')
        rw [hzd] at this
        rwa [List.flatten_replicate_replicate, Nat.sub_mul] at this
      exact ((RepRow.take (n := e.size) (fun x c h => by rw [h, hlen]) i' (rr_flat xs)).append (RepRow.drop (n := e.size) (fun x c h => by rw [h, hlen]) j' (rr_flat xs))).append hr
    obtain ⟨F, hFe⟩ : ∃ F, (xs.map e.cells).flatten.toArray.toList.take (i' * e.size) ++ (xs.map e.cells).flatten.toArray.toList.drop (j' * e.size) ++ List.replicate (j' * e.size - i' * e.size) zc = F := ⟨_, rfl⟩
    rw [hFe] at hF ⊢
    rw [putRow_id]
    obtain ⟨g1, g2⟩ := rowAt_put (n := n) (os := #[]) (ys := ys) (F := F.toArray) hrow hnl hyl (by rw [List.size_toArray]; exact RepRow.length (R := fun x c => c = e.cells x) (fun x c h => by rw [h, hlen]) hF) (fun b hb => ⟨ho.sb b hb, fun e => (ho.old p.b hbm).2 (e ▸ hb)⟩) (fun w' => hF.imp fun z c h => (Ty.cells_iff hp).2 h)
    have g3 := g1.first hnl (xs.length - (j' - i')) (by rw [hyl]; omega)
    have ht : ys.take (xs.length - (j' - i')) = xs.take i' ++ xs.drop j' := by
      rw [← hys, List.take_append_of_le_length (by simp; omega), List.take_of_length_le (by simp; omega)]
    rw [ht] at g3
    exact ⟨S, b1 ++ ([] ++ ([] ++ [])), ran_row ho hbm g2, ⟨p.b, xs.length - (j' - i'), p.o, p.cap, false⟩, rfl, g3, by rw [e2, hnl]; simp⟩
end Go.Pv

/- The library's Insert of one number. -/
set_option linter.unusedVariables false
set_option linter.unusedSimpArgs false
set_option linter.unusedSectionVars false
namespace Go.Pv
open Go.Sort Go.Shelf Go.Proofs Go.RowKit Go.Lib

/-- A world that is another one but for a block's cells. -/
structure Wr (w w' : World) (b : Nat) (cs : List Value) (ty : TypeId) : Prop where
  at' : w'.heap[b]? = some (.cells cs.toArray ty (0, 0))
  old : ∀ i, i ≠ b → w'.heap[i]? = w.heap[i]?
  size : w'.heap.size = w.heap.size
  os : w'.os = w.os
  tape : w'.tape = w.tape
  output : w'.output = w.output
  drawn : w.drawn ≤ w'.drawn

theorem Wr.refl {w : World} {b : Nat} {cs : List Value} {ty : TypeId} (h : w.heap[b]? = some (.cells cs.toArray ty (0, 0))) : Wr w w b cs ty := ⟨h, fun _ _ => rfl, rfl, rfl, rfl, rfl, Nat.le_refl _⟩
theorem Wr.drew {w w' : World} {b : Nat} {cs : List Value} {ty : TypeId} (h : Wr w w' b cs ty) : Wr w w'.drew b cs ty := ⟨h.at', h.old, h.size, h.os, h.tape, h.output, Nat.le_trans h.drawn (Nat.le_succ _)⟩
theorem Wr.set {w w' : World} {b : Nat} {cs : List Value} {ty : TypeId} (h : Wr w w' b cs ty) (o : Nat) (v : Value) : Wr w (w'.setCell ⟨b, o, none⟩ v) b (cs.set o v) ty := by
  refine ⟨?_, fun i hi => ?_, ?_, h.os, h.tape, h.output, h.drawn⟩
  · simp [World.setCell, Array.getElem?_modify, h.at']
  · simp [World.setCell, Array.getElem?_modify, Ne.symm hi]; exact h.old i hi
  · simp [World.setCell]; exact h.size
theorem set_over {cs vs : List Value} {v : Value} {o : Nat} (h : o + (vs.length + 1) ≤ cs.length) : (cs.set o v).take (o + 1) ++ vs ++ (cs.set o v).drop (o + 1 + vs.length) = cs.take o ++ (v :: vs) ++ cs.drop (o + (vs.length + 1)) := by
  have e1 : (cs.set o v).take (o + 1) = cs.take o ++ [v] := by
    rw [List.take_succ_eq_append_getElem (by simp; omega), List.take_set_of_le (Nat.le_refl _)]
    simp
  have e2 : (cs.set o v).drop (o + 1 + vs.length) = cs.drop (o + (vs.length + 1)) := by
    rw [List.drop_set_of_lt (by omega)]
    congr 1; omega
  rw [e1, e2]
  simp
theorem Wr.sets {w : World} {b : Nat} {ty : TypeId} : ∀ (vs : List Value) {w' : World} {cs : List Value} (o : Nat), Wr w w' b cs ty → o + vs.length ≤ cs.length → Wr w (w'.setCells b o vs) b (cs.take o ++ vs ++ cs.drop (o + vs.length)) ty
  | [], w', cs, o, h, hl => by simpa [World.setCells] using h
  | v :: vs, w', cs, o, h, hl => by
    have := Wr.sets vs (o + 1) (h.set o v) (by simp at hl ⊢; omega)
    rw [set_over (by simpa using hl)] at this
    exact this

/-- A row in the same place, with other elements. -/
theorem Wr.row {S : Nat → Prop} {w w' : World} {b o cap : Nat} {cs : List Value} {ty : TypeId} {e : Ty} {ys : List e.den} (h : Wr w w' b cs ty) (hl : ys.length ≤ cap) (hm : cap ≤ maxLen) (hc : o + cap * e.size ≤ cs.length) (hr : RepRow (Rep S w' e) ys ((cs.drop o).take (ys.length * e.size))) :
    RowAt S w' ⟨b, ys.length, o, cap, false⟩ e ys := ⟨rfl, .inr ⟨rfl, cs, ty, h.at', hl, hm, hc, hr⟩⟩
theorem Wr.grown {w w' : World} {b : Nat} {cs : List Value} {ty : TypeId} (h : Wr w w' b cs ty) : w.grownBy w' (some b) ∧ w.drawn ≤ w'.drawn :=
  ⟨⟨h.os, h.tape, h.output, by rw [h.size]; exact Nat.le_refl _, fun k hk hne => h.old k (fun e => hne (by rw [e]))⟩, h.drawn⟩

/-- A new row. -/
theorem new_ran {S : Nat → Prop} {w w' : World} {bs : List Nat} {cs : List Value} {ty : TypeId} (ho : Own S w bs) (h : Wr (w.alloc (.cells #[] 0)) w' w.heap.size cs ty) : Ran S w bs S w' [w.heap.size] := by
  have hs : w'.heap.size = w.heap.size + 1 := by rw [h.size]; simp
  refine ⟨h.os, h.tape, ⟨h.output, h.drawn⟩, by omega, fun k hk _ => (h.old k (by omega)).trans (Below.heap_alloc w _ k hk), fun _ h => h, fun _ h => .inl h, fun b hb => ?_, fun b hb => ?_, by simp, fun b hb => by have := ho.sb b hb; omega⟩
  · simp only [List.mem_singleton] at hb; subst hb; exact .inr (Nat.le_refl _)
  · simp only [List.mem_singleton] at hb; subst hb
    exact ⟨by omega, fun hS => by have := ho.sb _ hS; omega⟩
theorem wr_alloc {w : World} (cs : Array Value) (ty : TypeId) : Wr (w.alloc (.cells #[] 0)) (w.alloc (.cells cs ty)) w.heap.size cs.toList ty := by
  refine ⟨by simpa using World.alloc_heap_new w (.cells cs ty), fun i hi => ?_, by simp, rfl, rfl, rfl, Nat.le_refl _⟩
  simp only [World.alloc, Array.getElem?_push]
  rw [if_neg hi, if_neg hi]
theorem Wr.from {w w1 w' : World} {b : Nat} {cs : List Value} {ty : TypeId} (h : Wr w1 w' b cs ty) (hh : w1.heap = w.heap) (ho : w1.os = w.os) (ht : w1.tape = w.tape) (hu : w1.output = w.output) (hd : w.drawn ≤ w1.drawn) : Wr w w' b cs ty :=
  ⟨h.at', fun i hi => by rw [h.old i hi, hh], by rw [h.size, hh], h.os.trans ho, h.tape.trans ht, h.output.trans hu, Nat.le_trans hd h.drawn⟩

theorem ints_rep {S : Nat → Prop} {w : World} (l : List Int) : RepRow (Rep S w (.int .i64)) l (l.map (Value.int .i64)) := by
  have : RepRow (fun x c => c = (fun z => [Value.int .i64 z]) x) l (List.map (fun z : Int => [Value.int .i64 z]) l).flatten := rr_flat _
  rw [flat_one] at this
  exact this.imp fun z c h => h

/-- The cells of a row of numbers. -/
theorem row_ints {S : Nat → Prop} {w : World} {p : At} {xs : List Int} (h : RowAt S w p (.int .i64) xs) (hnl : p.nl = false) : ∃ (cs : List Value) (ty : TypeId), w.heap[p.b]? = some (.cells cs.toArray ty (0, 0)) ∧ p.n = xs.length ∧ xs.length ≤ p.cap ∧ p.cap ≤ maxLen ∧ p.o + p.cap ≤ cs.length ∧
    (cs.drop p.o).take xs.length = xs.map (Value.int .i64) := by
  obtain ⟨cs, ty, h1, hn, h2, h3, h4, h5⟩ := h.cells hnl
  have h5' : RepRow (fun x c => c = (fun z => [Value.int .i64 z]) x) xs ((cs.drop p.o).take (xs.length * 1)) := h5.imp fun z c h => h
  have hcells := rr_eq h5'
  rw [flat_one xs, Nat.mul_one] at hcells
  exact ⟨cs, ty, h1, hn, h2, h3, by have : p.o + p.cap * 1 ≤ cs.length := h4; omega, hcells⟩
theorem cell_at {w : World} {b o : Nat} {cs : List Value} {ty : TypeId} (h : w.heap[b]? = some (.cells cs.toArray ty (0, 0))) (j : Nat) : w.cell? ⟨b, o + j, none⟩ = (cs.drop o)[j]? := by
  simp [World.cell?, h]
theorem frozen_at {w : World} {b : Nat} {cs : List Value} {ty : TypeId} (h : w.heap[b]? = some (.cells cs.toArray ty (0, 0))) (j : Nat) : w.frozen? ⟨b, j, none⟩ = false := by
  simp [World.frozen?, h]

theorem zc_len (k : Nat) : (Builtin.zeroCells (Value.int .i64 0).cells k).size = k := by simp [Builtin.zeroCells, Value.cells]
section
variable {α : Type}
theorem take_pre (pre l : List α) (k : Nat) : (pre ++ l).take (pre.length + k) = pre ++ l.take k := List.take_length_add_append k
theorem drop_pre (pre l : List α) (k : Nat) : (pre ++ l).drop (pre.length + k) = l.drop k := List.drop_length_add_append k
theorem drop_pre0 (pre l : List α) : (pre ++ l).drop pre.length = l := by simp
theorem take_all (a b : List α) (n : Nat) (h : a.length = n) : (a ++ b).take n = a := by subst h; simp
theorem ins_shift (pre xs rest us : List α) (i : Nat) (hi : i < xs.length) (hu : us.length = 1) (hr : 1 ≤ rest.length) (A : List α) (hA : A = (pre ++ (xs ++ rest)).take (pre.length + (i + 1)) ++ xs.drop i ++ (pre ++ (xs ++ rest)).drop (pre.length + (i + 1) + (xs.drop i).length)) :
    ((A.take (pre.length + i) ++ us ++ A.drop (pre.length + i + us.length)).drop pre.length).take (xs.length + 1) = xs.take i ++ us ++ xs.drop i := by
  rw [Nat.add_assoc pre.length (i + 1), take_pre, drop_pre, List.append_assoc, List.append_assoc] at hA
  subst hA
  rw [Nat.add_assoc pre.length i, take_pre, drop_pre, List.append_assoc, List.append_assoc, drop_pre0]
  have e1 : ((xs ++ rest).take (i + 1) ++ (xs.drop i ++ (xs ++ rest).drop (i + 1 + (xs.drop i).length))).take i = xs.take i := by
    rw [List.take_append_of_le_length (by simp; omega), List.take_take, Nat.min_eq_left (by omega), List.take_append_of_le_length (by omega)]
  have e2 : ((xs ++ rest).take (i + 1) ++ (xs.drop i ++ (xs ++ rest).drop (i + 1 + (xs.drop i).length))).drop (i + us.length) = xs.drop i ++ (xs ++ rest).drop (i + 1 + (xs.drop i).length) := by
    have hl : ((xs ++ rest).take (i + 1)).length = i + us.length := by simp; omega
    rw [← hl]; simp
  rw [e1, e2, ← List.append_assoc us, ← List.append_assoc (xs.take i), ← List.append_assoc (xs.take i)]
  exact take_all _ _ _ (by simp; omega)
theorem ins_end (pre xs rest us : List α) (hu : us.length = 1) : (((pre ++ (xs ++ rest)).take (pre.length + xs.length) ++ us ++ (pre ++ (xs ++ rest)).drop (pre.length + xs.length + us.length)).drop pre.length).take (xs.length + 1) = xs ++ us := by
  rw [Nat.add_assoc pre.length xs.length us.length, take_pre, drop_pre, List.append_assoc, List.append_assoc, drop_pre0, ← List.append_assoc, take_all xs rest _ rfl]
  exact take_all _ _ _ (by simp; omega)
theorem ins_grow (xs us Z : List α) (i : Nat) (hi : i < xs.length) (hu : us.length = 1) (hz : xs.length + 1 ≤ i + Z.length) (B : List α) (hB : B = (xs.take i ++ Z).take i ++ us ++ (xs.take i ++ Z).drop (i + us.length)) :
    (B.take (i + 1) ++ xs.drop i ++ B.drop (i + 1 + (xs.drop i).length)).take (xs.length + 1) = xs.take i ++ us ++ xs.drop i := by
  have e1 : (xs.take i ++ Z).take i = xs.take i := take_all _ _ _ (by simp; omega)
  rw [e1] at hB
  have e2 : B.take (i + 1) = xs.take i ++ us := by rw [hB]; exact take_all _ _ _ (by simp; omega)
  rw [e2]
  exact take_all _ _ _ (by simp; omega)
end

/-- Insert of one number. -/
theorem insert_ent {P : Program} {ρ : Ren} (L : Lays2.n21 P ρ) (hb : ∃ fn c, P.funcs[ρ.f 21]? = some fn ∧ fn.body = some c ∧ (fn.name == "runtime.NumGoroutine") = false) :
    EntOk P (ρ.f 21) ⟨[(.own (.int .i64), false), (.dat (.int .i64), false), (.own (.int .i64), false)], .own (.int .i64), List Int, fun x => if 0 ≤ (x.2.1 : Int) ∧ (x.2.1 : Int) ≤ (x.1.length : Int) ∧ x.1.length ≤ 1000 ∧ x.2.2.1.length = 1 then some (x.1.take (x.2.1 : Int).toNat ++ x.2.2.1 ++ x.1.drop (x.2.1 : Int).toNat) else none, fun _ y => (y, ()), true⟩ := by
  refine ⟨hb, ?_⟩
  rintro S w vs ⟨xs, i0, us, u⟩ bs y ho hx hy
  obtain ⟨i, hi1⟩ : ∃ i : Int, i = i0 := ⟨i0, rfl⟩
  subst hi1
  have hy : (if 0 ≤ i ∧ i ≤ (xs.length : Int) ∧ xs.length ≤ 1000 ∧ us.length = 1 then some (xs.take i.toNat ++ us ++ xs.drop i.toNat) else none) = some y := hy
  have hc : 0 ≤ i ∧ i ≤ (xs.length : Int) ∧ xs.length ≤ 1000 ∧ us.length = 1 := by
    by_cases hc : 0 ≤ i ∧ i ≤ (xs.length : Int) ∧ xs.length ≤ 1000 ∧ us.length = 1
    · exact hc
    · rw [if_neg hc] at hy; cases hy
  rw [if_pos hc] at hy
  cases hy
  obtain ⟨v, r, b1, b2, rfl, rfl, ⟨p, e1, hrow, e2⟩, v2, r2, b3, b4, rfl, rfl, ⟨h2, rfl⟩, v3, r3, b5, b6, rfl, rfl, ⟨q, e3, hrow2, e4⟩, rfl, rfl⟩ := hx
  simp only [List.cons.injEq, and_true] at e1 e3
  have h2 : [v2] = [Value.int .i64 i] := h2
  cases h2
  subst e1 e3
  obtain ⟨i', rfl⟩ : ∃ i' : Nat, i = (i' : Int) := ⟨i.toNat, by omega⟩
  obtain ⟨-, c2, c3, c4⟩ := hc
  have c2 : i' ≤ xs.length := by omega
  show Calls P (ρ.f 21) #[rowVal p, .int .i64 (i' : Int), rowVal q] w fun
      | .returned v, w' => ∃ S' c1, Ran S w (b1 ++ ([] ++ (b5 ++ []))) S' w' c1 ∧ ShR S' w' (.own (.int .i64)) (xs.take ((i' : Int)).toNat ++ us ++ xs.drop ((i' : Int)).toNat) v c1
      | _, _ => False
  simp only [Int.toNat_natCast]
  have hql : q.nl = false := by
    cases h : q.nl with
    | false => rfl
    | true =>
      obtain ⟨hn, hr⟩ := hrow2
      rcases hr with ⟨_, h3, _⟩ | ⟨h3, _⟩
      · rw [show us = ([] : List Int) from h3] at c4; simp at c4
      · rw [h] at h3; cases h3
  obtain ⟨cs2, ty2, q1, q2, q3, q4, q5, q6⟩ := row_ints hrow2 hql
  have evq : rowVal q = .slice (some ⟨q.b, q.o, none⟩) 1 q.cap := by unfold rowVal; rw [hql, q2, c4]; rfl
  rw [evq]
  have hvl : (us.map (Value.int .i64)).length = 1 := by rw [List.length_map]; exact c4
  have hvs : ∀ j v, (us.map (Value.int .i64))[j]? = some v → w.cell? ⟨q.b, q.o + j, none⟩ = some v := by
    intro j v hv
    rw [cell_at q1, ← q6, List.getElem?_take] at *
    split at hv
    · exact hv
    · cases hv
  have h1v : ∀ v ∈ us.map (Value.int .i64), v.oneCell' = true := by
    intro v hv; obtain ⟨x, _, rfl⟩ := List.mem_map.1 hv; rfl
  obtain ⟨ys, hys⟩ : ∃ ys : List Int, xs.take i' ++ us ++ xs.drop i' = ys := ⟨_, rfl⟩
  have hyl : ys.length = xs.length + 1 := by rw [← hys]; simp; omega
  have hyc : (xs.map (Value.int .i64)).take i' ++ us.map (Value.int .i64) ++ (xs.map (Value.int .i64)).drop i' = ys.map (Value.int .i64) := by
    rw [← hys]; simp
  have hcl : (xs.map (Value.int .i64)).length = xs.length := by simp
  have h1c : ∀ v ∈ xs.map (Value.int .i64), v.oneCell' = true := by
    intro v hv; obtain ⟨x, _, rfl⟩ := List.mem_map.1 hv; rfl
  have hbig : (xs.length + 1) * 8 ≤ 140737488355328 := by omega
  rw [hys]
  -- a new row
  have newRow : ∀ {w' : World} {cs' : List Value} {ty' : TypeId} {G : Nat}, Wr (w.alloc (.cells #[] 0)) w' w.heap.size cs' ty' → ys.length ≤ G → G ≤ maxLen → G ≤ cs'.length → cs'.take ys.length = ys.map (Value.int .i64) →
      ∃ S' c1, Ran S w (b1 ++ ([] ++ (b5 ++ []))) S' w' c1 ∧ ShR S' w' (.own (.int .i64)) ys (.slice (some ⟨w.heap.size, 0, none⟩) (xs.length + 1) G) c1 := by
    intro w' cs' ty' G hw g1 g2 g3 g4
    refine ⟨S, [w.heap.size], new_ran ho hw, ⟨w.heap.size, ys.length, 0, G, false⟩, ?_, hw.row (o := 0) (e := .int .i64) (ys := ys) g1 g2 (by show 0 + G * 1 ≤ _; omega) ?_, rfl⟩
    · simp [rowVal, hyl]
    · simp only [Ty.size, Nat.mul_one, List.drop_zero]
      rw [g4]
      exact ints_rep ys
  cases hnl : p.nl with
  | true =>
    obtain ⟨hn, hr⟩ := hrow
    obtain ⟨-, hxs, hcap⟩ : p.nl = true ∧ xs = [] ∧ p.cap = 0 := by
      rcases hr with h | ⟨h, _⟩
      · exact h
      · rw [hnl] at h; cases h
    subst hxs
    have : i' = 0 := by simpa using c2
    subst this
    have e : rowVal p = .slice none 0 0 := by unfold rowVal; rw [hnl, hn, hcap]; rfl
    rw [e]
    refine (Any2.slices_Insert_int_end_grow L none 0 0 q.b q.o 1 q.cap [] (us.map (Value.int .i64)) w (by omega) (by omega) (by omega) (by omega) rfl hvl (fun _ => rfl) (fun a h => by cases h) hvs h1v).mono ?_
    rintro en w' ⟨rfl, rfl⟩
    have hG := grownCap_ge w (0 + 1) 0 (ρ.t 3)
    have hG2 := grownCap_le_maxLen w (0 + 1) 0 (ρ.t 3) (by unfold maxLen; omega)
    have hw := (wr_alloc (w := w.drew) (([] ++ us.map (Value.int .i64)).toArray ++ Builtin.zeroCells (Value.int .i64 0).cells (grownCap w (0 + 1) 0 (ρ.t 3) - (0 + 1))) (ρ.t 3))
    have hw := hw.from (w := w.alloc (.cells #[] 0)) rfl rfl rfl rfl (Nat.le_succ _)
    refine newRow hw (by rw [hyl]; exact hG) hG2 (by simp [zc_len, c4]; omega) ?_
    have : ys = us := by rw [← hys]; simp
    rw [this]
    simp
  | false =>
    obtain ⟨cs, ty, h1, hn, h2, h3, h4, h5⟩ := row_ints hrow hnl
    have hlt : p.b < w.heap.size := (Array.getElem?_eq_some_iff.1 h1).1
    have hbm : p.b ∈ b1 ++ ([] ++ (b5 ++ [])) := by rw [e2, hnl]; simp
    have ev : rowVal p = .slice (some ⟨p.b, p.o, none⟩) xs.length p.cap := by unfold rowVal; rw [hnl, hn]; rfl
    rw [ev]
    have hpq : q.b ≠ p.b := by
      have := ho.nd
      rw [e2, e4, hnl, hql] at this
      simp at this
      exact fun e => this e.symm
    have hcs : ∀ j v, (xs.map (Value.int .i64))[j]? = some v → w.cell? ⟨p.b, p.o + j, none⟩ = some v := by
      intro j v hv
      rw [cell_at h1]
      rw [← h5, List.getElem?_take] at hv
      split at hv
      · exact hv
      · cases hv
    have hdr : cs.drop p.o = xs.map (Value.int .i64) ++ cs.drop (p.o + xs.length) := by
      rw [← h5, ← List.drop_drop, List.take_append_drop]
    by_cases hroom : xs.length + 1 ≤ p.cap
    · -- in the same place
      have same : ∀ {w' : World} {cs' : List Value}, Wr w w' p.b cs' ty → cs'.length = cs.length → (cs'.drop p.o).take ys.length = ys.map (Value.int .i64) →
          ∃ S' c1, Ran S w (b1 ++ ([] ++ (b5 ++ []))) S' w' c1 ∧ ShR S' w' (.own (.int .i64)) ys (.slice (some ⟨p.b, p.o, none⟩) (xs.length + 1) p.cap) c1 := by
        intro w' cs' hw g3 g4
        have hran := ran_row ho hbm hw.grown
        refine ⟨S, [p.b], ?_, ⟨p.b, ys.length, p.o, p.cap, false⟩, ?_, hw.row (o := p.o) (e := .int .i64) (ys := ys) (by omega) h3 (by show p.o + p.cap * 1 ≤ cs'.length; omega) ?_, rfl⟩
        · exact ⟨hran.os, hran.tape, hran.output, hran.size, hran.same, hran.sub, fun b hb => (hran.new b hb), fun b hb => by simp only [List.mem_singleton] at hb; subst hb; exact .inl hbm, fun b hb => by simp only [List.mem_singleton] at hb; subst hb; exact hran.old _ hbm, by simp, hran.sb⟩
        · simp [rowVal, hyl]
        · simp only [Ty.size, Nat.mul_one]
          rw [g4]
          exact ints_rep ys
      have hsp : ∀ j, j < xs.length + 1 → (w.cell? ⟨p.b, p.o + j, none⟩).isSome = true := by
        intro j hj
        rw [cell_at h1, List.getElem?_drop, List.getElem?_eq_getElem (by omega)]; rfl
      by_cases hin : i' < xs.length
      · refine (Any2.slices_Insert_int_shift L p.b p.o xs.length p.cap i' q.b q.o 1 q.cap (xs.map (Value.int .i64)) (us.map (Value.int .i64)) w hin (by omega) hroom (by unfold maxLen at h3; omega) hpq hcl hvl hcs hsp (fun j _ => frozen_at h1 _) hvs h1c h1v ty2 ty cs2.length cs.length (by simp [World.shape?, q1]) (by simp [World.shape?, h1]) (by omega) (frozen_at q1 _) (frozen_at q1 _)).mono ?_
        rintro en w' ⟨rfl, rfl⟩
        have w1 := ((Wr.refl h1).drew).sets ((xs.map (Value.int .i64)).drop i') (p.o + (i' + 1)) (by simp; omega)
        have w2 := w1.sets (us.map (Value.int .i64)) (p.o + i') (by simp; omega)
        refine same w2 (by simp; omega) ?_
        have hpl : (cs.take p.o).length = p.o := by simp; omega
        have hcsE : cs = cs.take p.o ++ (xs.map (Value.int .i64) ++ cs.drop (p.o + xs.length)) := by rw [← hdr, List.take_append_drop]
        have := ins_shift (cs.take p.o) (xs.map (Value.int .i64)) (cs.drop (p.o + xs.length)) (us.map (Value.int .i64)) i' (by simpa using hin) hvl (by simp; omega) _ rfl
        rw [hpl, ← hcsE, hcl, hyc] at this
        rw [hyl]; exact this
      · have : i' = xs.length := by omega
        subst this
        refine (Any2.slices_Insert_int_end_room L p.b p.o xs.length p.cap q.b q.o 1 q.cap (us.map (Value.int .i64)) w (by omega) hroom (by unfold maxLen at h3; omega) hvl (fun j hj => by rw [Nat.add_assoc]; exact hsp _ (by omega)) (fun j _ => frozen_at h1 _) hvs h1v).mono ?_
        rintro en w' ⟨rfl, rfl⟩
        have w1 := (Wr.refl h1).sets (us.map (Value.int .i64)) (p.o + xs.length) (by simp; omega)
        refine same w1 (by simp; omega) ?_
        have hpl : (cs.take p.o).length = p.o := by simp; omega
        have hcsE : cs = cs.take p.o ++ (xs.map (Value.int .i64) ++ cs.drop (p.o + xs.length)) := by rw [← hdr, List.take_append_drop]
        have := ins_end (cs.take p.o) (xs.map (Value.int .i64)) (cs.drop (p.o + xs.length)) (us.map (Value.int .i64)) hvl
        rw [hpl, ← hcsE, hcl] at this
        have e : ys.map (Value.int .i64) = xs.map (Value.int .i64) ++ us.map (Value.int .i64) := by rw [← hys]; simp
        rw [hyl, e]; exact this
    · by_cases hin : i' < xs.length
      · refine (Any2.slices_Insert_int_grow L p.b p.o xs.length p.cap i' q.b q.o 1 q.cap (xs.map (Value.int .i64)) (us.map (Value.int .i64)) w hin (by omega) h2 (by omega) hbig hcl hvl hcs hvs h1c h1v).mono ?_
        rintro en w' ⟨rfl, rfl⟩
        have hG := grownCap_ge w (xs.length + 1) p.cap (ρ.t 3)
        have hG2 := grownCap_le_maxLen w (xs.length + 1) p.cap (ρ.t 3) (by unfold maxLen; omega)
        have hw := (wr_alloc (w := w) (((xs.map (Value.int .i64)).take i').toArray ++ Builtin.zeroCells (Value.int .i64 0).cells (xs.length + 1 - i') ++ Builtin.zeroCells (Value.int .i64 0).cells (grownCap w (xs.length + 1) p.cap (ρ.t 3) - (xs.length + 1))) (ρ.t 3))
        have w1 := hw.drew.sets (us.map (Value.int .i64)) i' (by simp [zc_len]; omega)
        have w2 := w1.drew.sets ((xs.map (Value.int .i64)).drop i') (i' + 1) (by simp [zc_len]; omega)
        refine newRow w2 (by rw [hyl]; exact hG) hG2 (by simp [zc_len]; omega) ?_
        have := ins_grow (xs.map (Value.int .i64)) (us.map (Value.int .i64)) ((Builtin.zeroCells (Value.int .i64 0).cells (xs.length + 1 - i')).toList ++ (Builtin.zeroCells (Value.int .i64 0).cells (grownCap w (xs.length + 1) p.cap (ρ.t 3) - (xs.length + 1))).toList) i' (by simpa using hin) hvl (by simp [zc_len]; omega) _ rfl
        rw [hcl, hyc] at this
        rw [hyl, ← this]
        simp only [Array.toList_append, List.append_assoc]
      · have : i' = xs.length := by omega
        subst this
        refine (Any2.slices_Insert_int_end_grow L (some ⟨p.b, p.o, none⟩) xs.length p.cap q.b q.o 1 q.cap (xs.map (Value.int .i64)) (us.map (Value.int .i64)) w (by omega) h2 (by omega) hbig hcl hvl (fun h => by cases h) (fun a h => by cases h; intro j v hv; rw [Addr.add_lit]; exact hcs j v hv) hvs h1v).mono ?_
        rintro en w' ⟨rfl, rfl⟩
        have hG := grownCap_ge w (xs.length + 1) p.cap (ρ.t 3)
        have hG2 := grownCap_le_maxLen w (xs.length + 1) p.cap (ρ.t 3) (by unfold maxLen; omega)
        have hw := (wr_alloc (w := w.drew) ((xs.map (Value.int .i64) ++ us.map (Value.int .i64)).toArray ++ Builtin.zeroCells (Value.int .i64 0).cells (grownCap w (xs.length + 1) p.cap (ρ.t 3) - (xs.length + 1))) (ρ.t 3))
        have hw := hw.from (w := w.alloc (.cells #[] 0)) rfl rfl rfl rfl (Nat.le_succ _)
        refine newRow hw (by rw [hyl]; exact hG) hG2 (by simp [zc_len, c4]; omega) ?_
        have e : ys.map (Value.int .i64) = xs.map (Value.int .i64) ++ us.map (Value.int .i64) := by rw [← hys]; simp
        rw [hyl, e]
        simp only [Array.toList_append]
        exact take_all _ _ _ (by simp [c4])
end Go.Pv

/- The library's sort at rows of slices. -/
set_option linter.unusedVariables false
set_option linter.unusedSimpArgs false
set_option linter.unusedSectionVars false
namespace Go.Pv
open Go.Sort Go.Shelf Go.Proofs Go.RowKit Go.Lib

/-- The row behind the sort, its elements in memory. -/
theorem rowAt_put2 {S : Nat → Prop} {w : World} {p : At} {e : Ty} {xs ys : List e.den} {F : Array Value} {n : Nat} {os : Array Obj} (h : RowAt S w p e xs) (hnl : p.nl = false) (hy : ys.length = xs.length) (hFs : F.size = ys.length * e.size)
    (hS : ∀ b, S b → b < w.heap.size ∧ b ≠ p.b) (hF : RepRow (Rep S (grow (putRow id (Sort.ahead w n) p.b p.o F) os) e) ys F.toList) : RowAt S (grow (putRow id (Sort.ahead w n) p.b p.o F) os) p e ys ∧ w.grownBy (grow (putRow id (Sort.ahead w n) p.b p.o F) os) (some p.b) ∧ w.drawn ≤ (grow (putRow id (Sort.ahead w n) p.b p.o F) os).drawn := by
  obtain ⟨cs, ty, h1, hn, h2, h3, h4, h5⟩ := h.cells hnl
  have hlt : p.b < w.heap.size := (Array.getElem?_eq_some_iff.1 h1).1
  have hold : ∀ k, k < w.heap.size → k ≠ p.b → (grow (putRow id (Sort.ahead w n) p.b p.o F) os).heap[k]? = w.heap[k]? := by
    intro k hk hne
    rw [heap_grow_old _ _ (by simpa [putRow, mapBlock, Sort.ahead] using hk)]
    simp [putRow, mapBlock, Sort.ahead, Array.getElem?_modify, Ne.symm hne]
  have hnew : (grow (putRow id (Sort.ahead w n) p.b p.o F) os).heap[p.b]? = some (.cells (putCells id p.o F cs.toArray) ty (0, 0)) := by
    rw [heap_grow_old _ _ (by simpa [putRow, mapBlock, Sort.ahead] using hlt)]
    simp [putRow, mapBlock, Sort.ahead, Array.getElem?_modify, h1, onCells]
  have hcap : xs.length * e.size ≤ p.cap * e.size := Nat.mul_le_mul_right _ h2
  refine ⟨⟨by rw [hn, hy], .inr ⟨hnl, (putCells id p.o F cs.toArray).toList, ty, by rw [hnew], by omega, h3, by simp [putCells]; omega, ?_⟩⟩, ⟨rfl, rfl, rfl, by simp [grow, putRow, mapBlock, Sort.ahead], fun k hk hne => hold k hk (fun e => hne (by rw [e]))⟩, Nat.le_add_right _ _⟩
  have hl : ((putCells id p.o F cs.toArray).toList.drop p.o).take (ys.length * e.size) = F.toList := by
    refine List.ext_getElem? fun t => ?_
    rw [List.getElem?_take]
    by_cases ht : t < ys.length * e.size
    · rw [if_pos ht, List.getElem?_drop, Array.getElem?_toList, Array.getElem?_toList, Array.getElem?_eq_getElem (by omega : t < F.size)]
      have h6 : p.o + t < cs.length := by rw [hy] at ht; omega
      simp only [putCells, Array.getElem?_mapIdx, List.getElem?_toArray, List.getElem?_eq_getElem h6, Option.map_some]
      rw [if_pos ⟨by omega, by omega⟩, show p.o + t - p.o = t by omega, getElem!_pos F t (by omega)]
      rfl
    · rw [if_neg ht, Array.getElem?_toList, Array.getElem?_eq_none (by omega)]
  rw [hl]
  exact hF


abbrev slI : Ty := .sl (.int .i64)
/-- A slice of at most a thousand numbers, with its data. -/
def Hdr (S : Nat → Prop) (w : World) : Type := {z : List Int × Value // Rep S w slI z.1 [z.2] ∧ z.1.length ≤ 1000}
def Hdr.dt {S : Nat → Prop} {w : World} (h : Hdr S w) : List Int := h.1.1
def Hdr.vl {S : Nat → Prop} {w : World} (h : Hdr S w) : Value := h.1.2
instance {S : Nat → Prop} {w : World} : Inhabited (Hdr S w) := ⟨⟨([], .slice none 0 0), ⟨none, 0, rfl, Nat.le_refl _, fun h => absurd h (Nat.lt_irrefl _)⟩, Nat.zero_le _⟩⟩
theorem Hdr.one {S : Nat → Prop} {w : World} : OneCell (Hdr.vl (S := S) (w := w)) := fun h => by
  obtain ⟨A, cap, e, _⟩ := h.2.1
  have e : h.vl = .slice A h.1.1.length cap := (List.cons.inj e).1
  rw [e]; rfl
theorem rows_hdr {S : Nat → Prop} {w : World} : ∀ {x : List (List Int)} {cs : List Value}, RepRow (Rep S w slI) x cs → (∀ y ∈ x, y.length ≤ 1000) → ∃ d : List (Hdr S w), d.map Hdr.dt = x ∧ cs = d.map Hdr.vl
  | [], cs, h, _ => ⟨[], rfl, h⟩
  | y :: x, cs, ⟨c, r, e, h1, h2⟩, hl => by
    obtain ⟨d, e1, e2⟩ := rows_hdr h2 fun z hz => hl z (List.mem_cons_of_mem _ hz)
    obtain ⟨A, cap, e3, h3⟩ := h1
    subst e3
    have hy : Rep S w slI (y, Value.slice A y.length cap).1 [(y, Value.slice A y.length cap).2] := ⟨A, cap, rfl, h3⟩
    obtain ⟨z, hz⟩ : ∃ z : Hdr S w, z = ⟨(y, .slice A y.length cap), hy, hl y (by simp)⟩ := ⟨_, rfl⟩
    refine ⟨z :: d, ?_, ?_⟩
    · rw [List.map_cons, e1, hz]; rfl
    · rw [e, e2, List.map_cons, hz]; rfl
theorem hdr_rows {S : Nat → Prop} {w w' : World} (hw : ∀ b, S b → w'.heap[b]? = w.heap[b]?) : ∀ d : List (Hdr S w), RepRow (Rep S w' slI) (d.map Hdr.dt) (d.map Hdr.vl)
  | [] => rfl
  | h :: d => ⟨[h.vl], d.map Hdr.vl, rfl, Rep.move (fun _ h => h) hw h.2.1, hdr_rows hw d⟩

def cmpL : List Int → List Int → Int
  | [], [] => 0
  | [], _ :: _ => -1
  | _ :: _, [] => 1
  | a :: x, b :: y => if a < b then -1 else if b < a then 1 else cmpL x y
def leL (x y : List Int) : Bool := decide (cmpL x y ≤ 0)
theorem cmpL_swap : ∀ x y, cmpL y x = - cmpL x y
  | [], [] => rfl
  | [], _ :: _ => rfl
  | _ :: _, [] => rfl
  | a :: x, b :: y => by
    have ih := cmpL_swap x y
    unfold cmpL
    by_cases h1 : a < b
    · have h2 : ¬ b < a := by omega
      simp [h1, h2]
    · by_cases h2 : b < a
      · simp [h1, h2]
      · simp only [h1, h2, if_false]; exact ih
theorem cmpL_eq : ∀ x y, cmpL x y = 0 → x = y
  | [], [], _ => rfl
  | [], _ :: _, h => by simp [cmpL] at h
  | _ :: _, [], h => by simp [cmpL] at h
  | a :: x, b :: y, h => by
    unfold cmpL at h
    by_cases h1 : a < b
    · simp [h1] at h
    · by_cases h2 : b < a
      · simp [h1, h2] at h
      · simp only [h1, h2, if_false] at h
        rw [cmpL_eq x y h, show a = b by omega]
theorem cmpL_tr : ∀ x y z, cmpL x y ≤ 0 → cmpL y z ≤ 0 → cmpL x z ≤ 0
  | [], y, [], _, _ => by simp [cmpL]
  | [], y, _ :: _, _, _ => by simp [cmpL]
  | _ :: _, [], z, h, _ => by simp [cmpL] at h
  | _ :: _, _ :: _, [], _, h => by simp [cmpL] at h
  | a :: x, b :: y, c :: z, h1, h2 => by
    unfold cmpL at h1 h2 ⊢
    by_cases g1 : a < c
    · simp [g1]
    · by_cases g2 : c < a
      · exfalso
        by_cases k1 : a < b
        · by_cases k2 : b < c
          · omega
          · by_cases k3 : c < b
            · simp [k2, k3] at h2
            · omega
        · by_cases k2 : b < a
          · simp [k1, k2] at h1
          · have : a = b := by omega
            subst this
            by_cases k3 : a < c
            · omega
            · simp [k3, g2] at h2
      · have : a = c := by omega
        subst this
        simp only [g1, if_false]
        by_cases k1 : a < b
        · by_cases k2 : b < a
          · omega
          · simp [k1, k2] at h2
        · by_cases k2 : b < a
          · simp [k1, k2] at h1
          · simp only [k1, k2, if_false] at h1 h2
            exact cmpL_tr x y z h1 h2
theorem leL_tr (a b c : List Int) (h1 : leL a b = true) (h2 : leL b c = true) : leL a c = true := by
  simp only [leL, decide_eq_true_eq] at *
  exact cmpL_tr a b c h1 h2
theorem leL_to (a b : List Int) : leL a b = true ∨ leL b a = true := by
  simp only [leL, decide_eq_true_eq]
  have := cmpL_swap a b
  omega
theorem leL_an (a b : List Int) (h1 : leL a b = true) (h2 : leL b a = true) : a = b := by
  simp only [leL, decide_eq_true_eq] at *
  have := cmpL_swap a b
  exact cmpL_eq a b (by omega)

/-- A function of two slices, called at two of these, in a world that is grown out of this one. -/
theorem EntOk.hdrs {P : Program} {f : Nat} {α : Type} {rs : Sh} {fn : (Fs.ty [(.dat slI, false), (.dat slI, false)]).den → Option α} {out : α → rs.ty.den} (h : EntOk P f ⟨[(.dat slI, false), (.dat slI, false)], rs, α, fn, fun _ y => (out y, ()), false⟩)
    {S : Nat → Prop} {w W : World} (hG : Gl S W) (hS : ∀ b, S b → b < W.heap.size) (hw : ∀ b, S b → W.heap[b]? = w.heap[b]?) (x y : Hdr S w) {r : α} (hr : fn (x.dt, y.dt, ()) = some r) {val : Value} (hval : ∀ S' w' v bs, ShR S' w' rs (out r) v bs → v = val ∧ bs = []) :
    Calls P f #[x.vl, y.vl] W fun en w' => en = .returned val ∧ ∃ q os', w' = grow (W.drewN q) os' := by
  have hv : ∀ z : Hdr S w, ShX S W false (.dat slI) z.dt [z.vl] [] := fun z => ⟨Rep.move (fun _ h => h) hw z.2.1, rfl⟩
  refine (h.2 S W [x.vl, y.vl] (x.dt, y.dt, ()) [] r ⟨fun b hb => (by cases hb), List.nodup_nil, hS, hG⟩ ⟨_, _, [], [], rfl, rfl, hv x, _, _, [], [], rfl, rfl, hv y, rfl, rfl⟩ hr).mono ?_
  rintro en w' hen
  cases en with
  | returned v =>
    obtain ⟨S', b1, b2, hran, hres, hback⟩ := hen
    obtain ⟨h1, h2⟩ := hval S' w' v b1 hres
    subst h1 h2
    exact ⟨rfl, hran.grown⟩
  | panicked c => exact hen.elim
  | outgrown => exact hen.elim

theorem same_put {α : Type} [Inhabited α] (enc : α → Value) (w : World) (b o : Nat) (d : Array α) : putRow enc w b o d = putRow id w b o (d.map enc) := by
  unfold putRow
  congr 1
  funext c
  unfold putCells
  refine Array.ext_getElem? fun t => ?_
  simp only [Array.getElem?_mapIdx, Array.size_map]
  congr 1
  funext z
  by_cases ht : o ≤ t ∧ t < o + d.size
  · rw [if_pos ht, if_pos ht]
    have h7 : t - o < d.size := by omega
    simp [h7]
  · rw [if_neg ht, if_neg ht]

theorem sortW_heap {α : Type} [Inhabited α] {enc : α → Value} {w : World} {b o m : Nat} {d : Array α} {os : Array Obj} {k : Nat} (hk : k < w.heap.size) (hne : k ≠ b) : (sortWorld enc w b o m d os).heap[k]? = w.heap[k]? := by
  unfold sortWorld
  rw [heap_grow_old _ _ (by simpa [putRow, mapBlock, Sort.ahead] using hk)]
  simp [putRow, mapBlock, Sort.ahead, Array.getElem?_modify, Ne.symm hne]
theorem sortW_size {α : Type} [Inhabited α] {enc : α → Value} {w : World} {b o m : Nat} {d : Array α} {os : Array Obj} : w.heap.size ≤ (sortWorld enc w b o m d os).heap.size := by
  simp [sortWorld, grow, putRow, mapBlock, Sort.ahead]

/-- The sort of rows by their order. -/
theorem sortL_ent {P : Program} {ρ : Ren} (L : SlLaysF.n6 P ρ) (hb : ∃ fn c, P.funcs[ρ.f 6]? = some fn ∧ fn.body = some c ∧ (fn.name == "runtime.NumGoroutine") = false) {g : Nat} {fn : (Fs.ty [(.dat slI, false), (.dat slI, false)]).den → Option Int}
    (hg : EntOk P g ⟨[(.dat slI, false), (.dat slI, false)], .dat (.int .i64), Int, fn, fun _ y => (y, ()), false⟩) (hfn : ∀ x y : List Int, x.length ≤ 1000 → y.length ≤ 1000 → fn (x, y, ()) = some (cmpL x y)) (eg : ∀ args w, (callFunc g args).run P w = .ok (.enter g args) w) :
    EntOk P (ρ.f 6) ⟨[(.own slI, true), (.fn g .un, false)], .nix, List (List Int), fun x => if x.1.length ≤ 1000 ∧ (∀ y ∈ x.1, y.length ≤ 1000) then some (isort leL x.1) else none, fun _ y => ((), (y, ())), false⟩ := by
  refine ⟨hb, ?_⟩
  rintro S w vs ⟨xs, u, uu⟩ bs y ho hx hy
  have hy : (if xs.length ≤ 1000 ∧ (∀ y ∈ xs, List.length (α := Int) y ≤ 1000) then some (isort leL xs) else none) = some y := hy
  have hc : xs.length ≤ 1000 ∧ (∀ y ∈ xs, List.length (α := Int) y ≤ 1000) := by
    by_cases hc : xs.length ≤ 1000 ∧ (∀ y ∈ xs, List.length (α := Int) y ≤ 1000)
    · exact hc
    · rw [if_neg hc] at hy; cases hy
  rw [if_pos hc] at hy
  cases hy
  obtain ⟨v, r, b1, b2, rfl, rfl, ⟨p, e1, hrow, e2⟩, v2, r2, b3, b4, rfl, rfl, ⟨us, e3, ⟨rfl, rfl⟩, -⟩, rfl, rfl⟩ := hx
  simp only [List.cons.injEq, and_true] at e1 e3
  subst e1 e3
  have hrow : RowAt S w p slI xs := hrow
  have hlt : ∀ a b : List Int, ltOf cmpL a b = !(leL b a) := fun a b => by
    unfold ltOf leL
    have := cmpL_swap a b
    rw [Bool.eq_iff_iff]
    simp only [decide_eq_true_eq, Bool.not_eq_true', decide_eq_false_iff_not]
    omega
  have hfn0 : ∀ W : World, ShX S W true (Fs.sh [(.fn g .un, false)]) (u, uu) [.func (.func g) #[] #[]] [] := fun W => ⟨_, [], [], [], rfl, rfl, ⟨[], rfl, ⟨rfl, rfl⟩, rfl⟩, rfl, rfl⟩
  show Calls P (ρ.f 6) #[rowVal p, .func (.func g) #[] #[]] w fun
      | .returned v, w' => ∃ S' c1 c2, Ran S w (b1 ++ ([] ++ [])) S' w' (c1 ++ c2) ∧ ShR S' w' .nix () v c1 ∧ ShX S' w' true (Fs.sh [(.own slI, true), (.fn g .un, false)]) (isort leL xs, (u, uu)) [rowVal p, .func (.func g) #[] #[]] c2
      | _, _ => False
  cases hnl : p.nl with
  | true =>
    obtain ⟨hn, hr⟩ := hrow
    obtain ⟨-, hxs, hcap⟩ : p.nl = true ∧ xs = [] ∧ p.cap = 0 := by
      rcases hr with h | ⟨h, _⟩
      · exact h
      · rw [hnl] at h; cases h
    subst hxs
    have e : rowVal p = .slice none 0 p.cap := by unfold rowVal; rw [hnl, hn]; rfl
    refine (show Calls P (ρ.f 6) #[rowVal p, .func (.func g) #[] #[]] w _ from e ▸ (AnyF.slices_SortFunc_none { L with } none p.cap (.func (.func g) #[] #[]) w).mono ?_)
    rintro en w' ⟨rfl, rfl⟩
    refine ⟨S, [], b1 ++ ([] ++ []), ho.refl, rfl, ?_⟩
    exact ⟨_, _, b1, [], rfl, by simp, ⟨p, by rw [e], ⟨hn, .inl ⟨hnl, rfl, hcap⟩⟩, e2⟩, hfn0 _⟩
  | false =>
    obtain ⟨cs, ty, h1, hn, h2, h3, h4, h5⟩ := hrow.cells hnl
    have hblt : p.b < w.heap.size := (Array.getElem?_eq_some_iff.1 h1).1
    have hbm : p.b ∈ b1 ++ ([] ++ []) := by rw [e2, hnl]; simp
    have hpS : ∀ b, S b → b ≠ p.b := fun b hb e => (ho.old p.b hbm).2 (e ▸ hb)
    obtain ⟨d, hd1, hd2⟩ := rows_hdr h5 hc.2
    have hdl : d.length = xs.length := by rw [← hd1]; simp
    have h4' : p.o + p.cap ≤ cs.length := by have : p.o + p.cap * 1 ≤ cs.length := h4; omega
    have hid : Holds id w p.b p.o (d.map Hdr.vl).toArray := holds_id h1 (by
      rw [List.toList_toArray, ← hd2]
      simp only [List.size_toArray, List.length_map, hdl]
      rw [show slI.size = 1 from rfl, Nat.mul_one, ← hdl]
      simp [hdl]) (by simp [hdl]; omega)
    have hH : Holds Hdr.vl w p.b p.o d.toArray := by
      intro j hj
      have := hid j (by simpa using hj)
      refine ⟨this.1.trans ?_, this.2⟩
      have hj' : j < d.length := by simpa using hj
      simp [hj']
    have hO : SWO (ltOf (fun x y : Hdr S w => cmpL x.dt y.dt)) := by
      have hl : ∀ a b : Hdr S w, ltOf (fun x y : Hdr S w => cmpL x.dt y.dt) a b = !(leL b.dt a.dt) := fun a b => hlt a.dt b.dt
      have hnot : ∀ a b : Hdr S w, ltOf (fun x y : Hdr S w => cmpL x.dt y.dt) a b = true ↔ leL b.dt a.dt = false := fun a b => by rw [hl]; cases leL b.dt a.dt <;> simp
      have hnot' : ∀ a b : Hdr S w, ltOf (fun x y : Hdr S w => cmpL x.dt y.dt) a b = false ↔ leL b.dt a.dt = true := fun a b => by rw [hl]; cases leL b.dt a.dt <;> simp
      refine ⟨fun a => (hnot' _ _).2 ((leL_to a.dt a.dt).elim id id), fun a b c h1 h2 => ?_, fun a b c h1 h2 => ?_⟩
      · rw [hnot] at h1 h2 ⊢
        cases h3 : leL c.dt a.dt with
        | false => rfl
        | true =>
          have h4 : leL a.dt b.dt = true := (leL_to a.dt b.dt).resolve_right (by rw [h1]; exact Bool.false_ne_true)
          rw [leL_tr _ _ _ h3 h4] at h2; cases h2
      · rw [hnot'] at h1 h2 ⊢
        exact leL_tr _ _ _ h2 h1
    have e' : rowVal p = .slice (some ⟨p.b, p.o, none⟩) d.toArray.size p.cap := by unfold rowVal; rw [hnl, hn]; simp [hdl]
    have hcmp : CmpLays1 P g #[] Hdr.vl (fun x y : Hdr S w => cmpL x.dt y.dt) p.b p.o d.toArray.size w := by
      intro m os dk _ x y
      refine EntOk.hdrs hg (S := S) (w := w) (fun q hq => by simp [glob] at hq) (fun b hb => Nat.lt_of_lt_of_le (ho.sb b hb) sortW_size) (fun b hb => sortW_heap (ho.sb b hb) (hpS b hb)) x y (r := cmpL x.dt y.dt) (hfn _ _ x.2.2 y.2.2) (fun S' w' v bs h => ?_)
      obtain ⟨h1, h2⟩ := (show Rep S' w' (.int .i64) (cmpL x.dt y.dt) [v] ∧ bs = [] from h)
      exact ⟨by simpa [Rep] using h1, h2⟩
    refine (show Calls P (ρ.f 6) #[rowVal p, .func (.func g) #[] #[]] w _ from e' ▸ (Any.slices_SortFunc L Hdr.vl Hdr.one (fun x y : Hdr S w => cmpL x.dt y.dt) hO g #[] p.b p.o p.cap d.toArray w eg hcmp hH hblt (by simp; omega)).mono ?_)
    rintro en w' ⟨rfl, d', n, os, hP, hSo, rfl⟩
    obtain ⟨hsz, _, hperm⟩ := hP
    have e1 : d'.extract 0 d.toArray.size = d' := by rw [← hsz]; exact Array.extract_size
    rw [e1, Array.extract_size] at hperm
    have hperm : d'.toList.Perm d := hperm
    have hdat : d'.toList.map Hdr.dt = isort leL xs := by
      refine sorted_unique' leL_an ((hperm.map Hdr.dt).trans (by rw [hd1]; exact (isort_perm xs).symm)) ?_ (isort_sorted leL_tr leL_to xs)
      rw [List.pairwise_map, List.pairwise_iff_getElem]
      intro i j hi hj hij
      have hi' : i < d'.size := by simpa using hi
      have hj' : j < d'.size := by simpa using hj
      have := hSo i j (Nat.zero_le _) hij (by omega)
      rw [getElem!_pos d' j hj', getElem!_pos d' i hi'] at this
      have this : ltOf cmpL d'[j].dt d'[i].dt = false := this
      rw [hlt] at this
      simpa using this
    have hyl : (isort leL xs).length = xs.length := (isort_perm xs).length_eq
    have hw' : sortWorld Hdr.vl w p.b p.o n d' os = grow (putRow id (Sort.ahead w n) p.b p.o (d'.map Hdr.vl)) os := by unfold sortWorld; rw [same_put]
    rw [hw']
    obtain ⟨g1, g2⟩ := rowAt_put2 (n := n) (os := os) (ys := isort leL xs) (F := d'.map Hdr.vl) hrow hnl hyl (by rw [Array.size_map, hsz, hyl]; simp [Ty.size, hdl]) (fun b hb => ⟨ho.sb b hb, hpS b hb⟩) (by
      rw [← hdat, Array.toList_map, ← hw']
      exact hdr_rows (fun b hb => sortW_heap (ho.sb b hb) (hpS b hb)) d'.toList)
    have hre := row_ent (r := [(.fn g .un, false)]) ho (by rw [e2]; simp) hnl g1 g2 (hfn0 _)
    rw [← e']
    exact ⟨S, [], b1 ++ ([] ++ []), hre.1, rfl, hre.2⟩
end Go.Pv
