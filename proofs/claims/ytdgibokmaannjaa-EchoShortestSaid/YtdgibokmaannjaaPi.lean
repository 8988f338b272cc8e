/- Rows of rows, each in a block of its own. -/
import Derived.Test.YtdgibokmaannjaaPh
import Derived.Laws.AppendOwn
/- Rows of any values: one is laid behind another, and what is drawn only grows. -/
set_option linter.unusedVariables false
set_option linter.unusedSimpArgs false
namespace Go.Pv

theorem append_own_d {P : Program} {w : World} (base : Nat) (t ty e : TypeId) (i : TypeInfo) (z : Value) (size bytes : Nat) (ht : P.underlying t = some (.slice e)) (hi : P.info? e = some i) (hz : i.zero = some z)
    (hsize : i.size = size) (hby : i.bytes = bytes) (hzs : z.cells.size = size) (hsz : 0 < size)
    (v : Value) (n : Nat) (xs : List Value) (hown : w.ownsRow base e size v n xs)
    (a : Addr) (m c : Nat) (news : List Value) (hm : 0 < m) (hl : news.length = m * size) (hnews : ∀ j u, news[j]? = some u → w.cell? (a.add j) = some u) (h1 : ∀ u ∈ news, u.oneCell' = true)
    (h63 : n + m ≤ maxLen) (hbytes : (n + m) * bytes ≤ 140737488355328) (hbase : base ≤ w.heap.size) :
    ∃ v' w', (Builtin.append_ #[t, t] ty #[v, .slice (some a) m c]).run P w = .ok v' w' ∧ w'.ownsRow base e size v' (n + m) (xs ++ news) ∧ w.grownBy w' v.ownBlock ∧ v' ≠ .slice none 0 0 ∧ w.drawn ≤ w'.drawn ∧
      ∀ g, v'.ownBlock = some g → v.ownBlock = some g ∨ w.heap.size ≤ g := by
  obtain ⟨v', w', hr, h2, h3, h4⟩ := run_append_own w base t ty e i z size bytes ht hi hz hsize hby hzs hsz v n xs hown a m c news hl hnews h1 h63 hbytes hbase
  have hne : v' ≠ .slice none 0 0 := fun h => by have := (h4.1 h).2; omega
  have key : w.drawn ≤ w'.drawn ∧ ∀ g, v'.ownBlock = some g → v.ownBlock = some g ∨ w.heap.size ≤ g := by
    subst hsize
    subst hby
    rcases hown.2 with ⟨rfl, rfl⟩ | ⟨g, cap, cur, rfl, hb, hg, hc, hcm, hcs, htk⟩
    · have e1 := run_append_nil w t ty e i z ht hi hz a m c news hl hnews hm (by simp only [maxLen] at h63; omega) (by rw [Nat.zero_add] at hbytes; omega)
      rw [hr] at e1
      obtain ⟨rfl, rfl⟩ := Result.ok.inj e1
      refine ⟨Nat.le_succ _, fun g h => .inr ?_⟩
      have h : some w.heap.size = some g := h
      cases h
      exact Nat.le_refl _
    · by_cases hroom : n + m ≤ cap
      · have e1 := run_append_room w t ty e i ht hi g n cap cur hg a m c news hl hnews h1 hroom (by
          rw [hcs, hl, ← Nat.add_mul]
          exact Nat.mul_le_mul_right _ hroom)
        rw [hr] at e1
        obtain ⟨rfl, rfl⟩ := Result.ok.inj e1
        exact ⟨Nat.le_refl _, fun g' h => .inl h⟩
      · have holds : ∀ j u, xs[j]? = some u → w.cell? ((⟨g, 0, none⟩ : Addr).add j) = some u := hown.cells rfl
        have e1 := run_append_grow w t ty e i z ht hi hz ⟨g, 0, none⟩ n cap xs hown.1 holds a m c news hl hnews (by omega) (by simp only [maxLen] at h63; omega) (growslice_fits (by omega) hbytes)
        rw [hr] at e1
        obtain ⟨rfl, rfl⟩ := Result.ok.inj e1
        refine ⟨Nat.le_succ _, fun g' h => .inr ?_⟩
        have h : some w.heap.size = some g' := h
        cases h
        exact Nat.le_refl _
  exact ⟨v', w', hr, h2, h3, hne, key⟩
end Go.Pv

/- Rows of rows of numbers, each in a block of its own, as one row of rows. -/
set_option linter.unusedVariables false
set_option linter.unusedSimpArgs false
namespace Go.Pv

/-- One row of numbers that lies in a block of its own. -/
def RowIn (w : World) (base e : Nat) (v : Value) (xs : List Int) : Prop := w.ownsRow base e 1 v xs.length (xs.map (Value.int .i64))

theorem ints_row {S : Nat → Prop} {w : World} : ∀ l : List Int, RepRow (Rep S w (.int .i64)) l (l.map (Value.int .i64))
  | [] => rfl
  | x :: l => ⟨[.int .i64 x], l.map (Value.int .i64), rfl, rfl, ints_row l⟩

theorem own_cells {w : World} {base e size g n cap : Nat} {xs : List Value} (h : w.ownsRow base e size (.slice (some ⟨g, 0, none⟩) n cap) n xs) : CellsAt w g 0 xs ∧ n ≤ cap ∧ base ≤ g ∧ g < w.heap.size := by
  have hlt := h.lt g rfl
  refine ⟨fun j d hd => ?_, ?_, hlt⟩
  · have := h.cells (g := g) rfl j d hd
    rw [Addr.add_lit] at this
    exact this
  · rcases h.2 with ⟨h, -⟩ | ⟨g', cap', cur, e1, -, -, hc, -⟩
    · cases h
    · cases e1; exact hc

/-- Seen as data. -/
theorem RowIn.rep {S : Nat → Prop} {w : World} {base e : Nat} {v : Value} {xs : List Int} (h : RowIn w base e v xs) (hS : ∀ g, v.ownBlock = some g → S g) : Rep S w (.sl (.int .i64)) xs [v] := by
  have h' : w.ownsRow base e 1 v xs.length (xs.map (Value.int .i64)) := h
  rcases h'.2 with ⟨rfl, hn⟩ | ⟨g, cap, cur, rfl, -, -, hc, -⟩
  · have : xs = [] := List.eq_nil_of_length_eq_zero hn
    subst this
    exact ⟨none, 0, rfl, Nat.le_refl _, fun h => absurd h (Nat.lt_irrefl 0)⟩
  · refine ⟨some ⟨g, 0, none⟩, cap, rfl, hc, fun _ => ?_⟩
    exact ⟨g, 0, _, rfl, hS g rfl, (own_cells h').1, ints_row xs⟩

/-- The rows of a list of rows. -/
def RowsIn (w : World) (base e : Nat) : List Value → List (List Int) → Prop
  | [], xss => xss = []
  | v :: vs, xss => ∃ xs r, xss = xs :: r ∧ RowIn w base e v xs ∧ RowsIn w base e vs r
theorem RowsIn.length {w : World} {base e : Nat} : ∀ {vs : List Value} {xss : List (List Int)}, RowsIn w base e vs xss → vs.length = xss.length
  | [], xss, h => by have h : xss = [] := h; subst h; rfl
  | v :: vs, xss, ⟨xs, r, e1, _, h⟩ => by rw [e1, List.length_cons, List.length_cons, h.length]
theorem RowsIn.rep {S : Nat → Prop} {w : World} {base e : Nat} : ∀ {vs : List Value} {xss : List (List Int)}, RowsIn w base e vs xss → (∀ v ∈ vs, ∀ g, v.ownBlock = some g → S g) → RepRow (Rep S w (.sl (.int .i64))) xss vs
  | [], xss, h, _ => by have h : xss = [] := h; subst h; rfl
  | v :: vs, xss, ⟨xs, r, e1, h1, h⟩, hS => by
    subst e1
    exact ⟨[v], vs, rfl, h1.rep (hS v List.mem_cons_self), h.rep fun u hu => hS u (List.mem_cons_of_mem _ hu)⟩
theorem RowsIn.get {w : World} {base e : Nat} : ∀ {vs : List Value} {xss : List (List Int)}, RowsIn w base e vs xss → ∀ {i : Nat} {v : Value}, vs[i]? = some v → ∃ xs, xss[i]? = some xs ∧ RowIn w base e v xs
  | [], xss, h, i, v, hv => by simp at hv
  | u :: vs, xss, ⟨xs, r, e1, h1, h⟩, i, v, hv => by
    subst e1
    cases i with
    | zero => simp only [List.getElem?_cons_zero, Option.some.injEq] at hv; subst hv; exact ⟨xs, rfl, h1⟩
    | succ i => exact h.get (i := i) (by simpa using hv)
theorem RowsIn.app {w : World} {base e : Nat} {v : Value} {xs : List Int} (hv : RowIn w base e v xs) : ∀ {vs : List Value} {xss : List (List Int)}, RowsIn w base e vs xss → RowsIn w base e (vs ++ [v]) (xss ++ [xs])
  | [], xss, h => by have h : xss = [] := h; subst h; exact ⟨xs, [], rfl, hv, rfl⟩
  | u :: vs, xss, ⟨ys, r, e1, h1, h⟩ => by subst e1; exact ⟨ys, r ++ [xs], rfl, h1, RowsIn.app hv h⟩
theorem RowsIn.set {w : World} {base e : Nat} {v : Value} {xs : List Int} (hv : RowIn w base e v xs) : ∀ {vs : List Value} {xss : List (List Int)} (i : Nat), RowsIn w base e vs xss → RowsIn w base e (vs.set i v) (xss.set i xs)
  | [], xss, i, h => by have h : xss = [] := h; subst h; rfl
  | u :: vs, xss, 0, ⟨ys, r, e1, h1, h⟩ => by subst e1; exact ⟨xs, r, rfl, hv, h⟩
  | u :: vs, xss, i + 1, ⟨ys, r, e1, h1, h⟩ => by subst e1; exact ⟨ys, r.set i xs, rfl, h1, RowsIn.set hv i h⟩
/-- They stay while another block is written and new ones are made. -/
theorem RowsIn.kept {w w' : World} {base e : Nat} {row : Option Nat} (hg : w.grownBy w' row) : ∀ {vs : List Value} {xss : List (List Int)}, RowsIn w base e vs xss → (∀ v ∈ vs, v.ownBlock = none ∨ v.ownBlock ≠ row) → RowsIn w' base e vs xss
  | [], xss, h, _ => h
  | v :: vs, xss, ⟨xs, r, e1, h1, h⟩, hr => by
    have h1 : w.ownsRow base e 1 v xs.length (xs.map (Value.int .i64)) := h1
    exact ⟨xs, r, e1, h1.kept hg (hr v List.mem_cons_self), h.kept hg fun u hu => hr u (List.mem_cons_of_mem _ hu)⟩

/-- The whole as an owned row of rows, each of them data. -/
theorem rows_at {S : Nat → Prop} {w : World} {base e e2 : Nat} {V : Value} {vs : List Value} {xss : List (List Int)} (hV : w.ownsRow base e2 1 V vs.length vs) (h : RowsIn w base e vs xss) (hS : ∀ v ∈ vs, ∀ g, v.ownBlock = some g → S g) :
    ∃ P : At, V = rowVal P ∧ RowAt S w P (.sl (.int .i64)) xss ∧ (P.nl = false → V.ownBlock = some P.b) := by
  have hl := h.length
  have hr := h.rep hS
  rcases hV.2 with ⟨rfl, hn⟩ | ⟨g, cap, cur, rfl, hb, hg, hc, hm, hcs, htk⟩
  · have : xss = [] := List.eq_nil_of_length_eq_zero (by omega)
    subst this
    exact ⟨⟨0, 0, 0, 0, true⟩, rfl, ⟨rfl, .inl ⟨rfl, rfl, rfl⟩⟩, fun h => by cases h⟩
  · refine ⟨⟨g, vs.length, 0, cap, false⟩, rfl, ⟨hl, .inr ⟨rfl, cur.toList, e2, ?_, by show xss.length ≤ cap; omega, hm, ?_, ?_⟩⟩, fun _ => rfl⟩
    · rw [Array.toArray_toList]; exact hg
    · show 0 + cap * 1 ≤ cur.toList.length
      rw [Array.length_toList]; omega
    · show RepRow _ xss ((cur.toList.drop 0).take (xss.length * 1))
      rw [List.drop_zero, ← hl, htk]
      exact hr
end Go.Pv
