/- What the document's rows computes: all rows of places, each in memory of its own. -/
import Derived.Test.YtdgibokmaannjaaR6
import Derived.Test.YtdgibokmaannjaaPj
set_option maxRecDepth 100000
set_option linter.unusedVariables false
set_option linter.unusedSimpArgs false
namespace Go.Proofs.Ytdgibokmaannjaa
open Go Go.Pv Go.RowKit

noncomputable def ops13 : Array Oper := match opsOf 13 (codeOf Try.f64) with | some o => o | none => #[]
noncomputable def pos13 (i : Nat) : String := match ops13.toList[i]? with | some o => o.pos | none => ""
noncomputable def aft13 (i : Nat) : Array Edge := match ops13.toList[i]? with | some o => o.after | none => #[]
theorem o13_0 : ops13[0]? = some ⟨some 73, .move (.tmp 9), 38, pos13 0, aft13 0, none⟩ := by kernel_rfl
theorem o13_1 : ops13[1]? = some ⟨some 74, .buildSlice 22 0 #[], 22, pos13 1, aft13 1, none⟩ := by kernel_rfl
theorem o13_2 : ops13[2]? = some ⟨some 75, .move (.tmp 7), 38, pos13 2, aft13 2, none⟩ := by kernel_rfl
theorem o13_3 : ops13[3]? = some ⟨some 76, .move (.tmp 10), 3, pos13 3, aft13 3, none⟩ := by kernel_rfl
theorem o13_4 : ops13[4]? = some ⟨some 77, .indexAddr 38 (.tmp 75) (.tmp 76), 0, pos13 4, aft13 4, none⟩ := by kernel_rfl
theorem o13_5 : ops13[5]? = some ⟨some 78, .load 22 (.tmp 77), 22, pos13 5, aft13 5, none⟩ := by kernel_rfl
theorem o13_6 : ops13[6]? = some ⟨some 79, .call ⟨.builtin .append, #[.tmp 74, .tmp 78], #[22, 22]⟩, 22, pos13 6, aft13 6, none⟩ := by kernel_rfl
theorem o13_7 : ops13[7]? = some ⟨some 80, .move (.tmp 0), 22, pos13 7, aft13 7, none⟩ := by kernel_rfl
theorem o13_8 : ops13[8]? = some ⟨some 81, .move (.tmp 11), 3, pos13 8, aft13 8, none⟩ := by kernel_rfl
theorem o13_9 : ops13[9]? = some ⟨some 82, .indexAddr 22 (.tmp 80) (.tmp 81), 0, pos13 9, aft13 9, none⟩ := by kernel_rfl
theorem o13_10 : ops13[10]? = some ⟨some 83, .load 3 (.tmp 82), 3, pos13 10, aft13 10, none⟩ := by kernel_rfl
theorem o13_11 : ops13[11]? = some ⟨some 84, .buildSlice 22 1 #[(0, .tmp 83)], 22, pos13 11, aft13 11, none⟩ := by kernel_rfl
theorem o13_12 : ops13[12]? = some ⟨some 85, .call ⟨.builtin .append, #[.tmp 79, .tmp 84], #[22, 22]⟩, 22, pos13 12, aft13 12, none⟩ := by kernel_rfl
theorem o13_13 : ops13[13]? = some ⟨some 86, .buildSlice 38 1 #[(0, .tmp 85)], 38, pos13 13, aft13 13, none⟩ := by kernel_rfl
theorem o13_14 : ops13[14]? = some ⟨some 87, .call ⟨.builtin .append, #[.tmp 73, .tmp 86], #[38, 38]⟩, 38, pos13 14, aft13 14, none⟩ := by kernel_rfl
theorem o13_15 : ops13[15]? = some ⟨some 9, .assign (.tmp 87), 38, pos13 15, aft13 15, none⟩ := by kernel_rfl
theorem s13 : ops13.size = 16 := by kernel_rfl
theorem low13 : lowB ops13 = true := by kernel_rfl

theorem x_assign (a : Act) (d : Option Tmp) (t ty : Nat) (p : String) (f : Array Edge) (w : World) : (execOp a.eval ⟨d, .assign (.tmp t), ty, p, f, none⟩).run Try.prog w = .ok (.value (a.tmps.getD t undef)) w := rfl
theorem x_index38 (a : Act) (d : Option Tmp) (s t ty : Nat) (p : String) (f : Array Edge) (w : World) {b o n c k : Nat} (h1 : a.tmps.getD s undef = .slice (some ⟨b, o, none⟩) n c) (h2 : a.tmps.getD t undef = .int .i64 (k : Int)) (hk : k < n) :
    (execOp a.eval ⟨d, .indexAddr 38 (.tmp s) (.tmp t), ty, p, f, none⟩).run Try.prog w = .ok (.value (.pointer (some ⟨b, o + k, none⟩))) w := by
  have e1 : a.eval (.tmp s) = .slice (some ⟨b, o, none⟩) n c := h1
  have e2 : a.eval (.tmp t) = .int .i64 (k : Int) := h2
  have hk' : (k : Int) < n := by omega
  simp only [execOp, e1, e2]
  simp [go_sem, hk', hk]
theorem x_load22 (a : Act) (d : Option Tmp) (s ty : Nat) (p : String) (f : Array Edge) (w : World) {ad : Addr} {v : Value} (h1 : a.tmps.getD s undef = .pointer (some ad)) (h2 : w.cell? ad = some v) :
    (execOp a.eval ⟨d, .load 22 (.tmp s), ty, p, f, none⟩).run Try.prog w = .ok (.value v) w := by
  have e1 : a.eval (.tmp s) = .pointer (some ad) := h1
  simp only [execOp, e1]
  simp [go_sem, h2]
theorem x_build0 (a : Act) (d : Option Tmp) (ty : Nat) (p : String) (f : Array Edge) (w : World) :
    (execOp a.eval ⟨d, .buildSlice 22 0 #[], ty, p, f, none⟩).run Try.prog w = .ok (.value (.slice (some ⟨w.heap.size, 0, none⟩) 0 0)) (w.alloc (.cells #[] 3)) := by
  simp [execOp, go_sem]
theorem x_build1 (a : Act) (d : Option Tmp) (t ty : Nat) (p : String) (f : Array Edge) (w : World) {x : Int} (h : a.tmps.getD t undef = .int .i64 x) :
    (execOp a.eval ⟨d, .buildSlice 22 1 #[(0, .tmp t)], ty, p, f, none⟩).run Try.prog w = .ok (.value (.slice (some ⟨w.heap.size, 0, none⟩) 1 1)) (w.alloc (.cells #[.int .i64 x] 3)) := by
  have e1 : a.eval (.tmp t) = .int .i64 x := h
  simp only [execOp, List.map_toArray, List.map_cons, List.map_nil, e1]
  simp [go_sem]
theorem x_build38 (a : Act) (d : Option Tmp) (t ty : Nat) (p : String) (f : Array Edge) (w : World) {A : Option Addr} {n c : Nat} (h : a.tmps.getD t undef = .slice A n c) :
    (execOp a.eval ⟨d, .buildSlice 38 1 #[(0, .tmp t)], ty, p, f, none⟩).run Try.prog w = .ok (.value (.slice (some ⟨w.heap.size, 0, none⟩) 1 1)) (w.alloc (.cells #[.slice A n c] 22)) := by
  have e1 : a.eval (.tmp t) = .slice A n c := h
  simp only [execOp, List.map_toArray, List.map_cons, List.map_nil, e1]
  simp [go_sem]
theorem x_append {T : Nat} (a : Act) (d : Option Tmp) (s t ty : Nat) (p : String) (f : Array Edge) (w w' : World) {v u r : Value} (h1 : a.tmps.getD s undef = v) (h2 : a.tmps.getD t undef = u) (h : (Builtin.append_ #[T, T] ty #[v, u]).run Try.prog w = .ok r w') :
    (execOp a.eval ⟨d, .call ⟨.builtin .append, #[.tmp s, .tmp t], #[T, T]⟩, ty, p, f, none⟩).run Try.prog w = .ok (.value r) w' := by
  have e1 : a.eval (.tmp s) = v := h1
  have e2 : a.eval (.tmp t) = u := h2
  simp only [execOp, Sem.run_bind, resolve, Sem.run_pure, Result.andThen_ok, invoke, List.map_toArray, List.map_cons, List.map_nil, e1, e2]
  simp [builtin, h]

/-- An outer row with its rows, each in a block of its own. -/
structure RowSt (w : World) (base : Nat) (V : Value) (vs : List Value) (xss : List (List Int)) : Prop where
  own : w.ownsRow base 22 1 V vs.length vs
  rows : Go.Pv.RowsIn w base 3 vs xss
  blk : ∀ v ∈ vs, ∃ g, v.ownBlock = some g
  apart : vs.Pairwise fun a b => a.ownBlock ≠ b.ownBlock
  outer : ∀ v ∈ vs, v.ownBlock ≠ V.ownBlock
section
variable {w w1 w2 : World}
theorem ownsRow_low {base e size : Nat} {v : Value} {n : Nat} {xs : List Value} (h : w1.ownsRow base e size v n xs) (hl : ∀ d, d < w1.heap.size → w.heap[d]? = w1.heap[d]?) : w.ownsRow base e size v n xs := by
  refine ⟨h.1, ?_⟩
  rcases h.2 with h0 | ⟨g, cap, cur, rfl, h1, h2, h3⟩
  · exact .inl h0
  · refine .inr ⟨g, cap, cur, rfl, h1, ?_, h3⟩
    rw [hl g (h.lt g rfl).2]; exact h2
theorem ownsRow_base {base base2 e size : Nat} {v : Value} {n : Nat} {xs : List Value} (h : w.ownsRow base e size v n xs) (hb : base2 ≤ base) : w.ownsRow base2 e size v n xs := by
  refine ⟨h.1, ?_⟩
  rcases h.2 with h0 | ⟨g, cap, cur, rfl, h1, h3⟩
  · exact .inl h0
  · exact .inr ⟨g, cap, cur, rfl, Nat.le_trans hb h1, h3⟩
theorem RowsIn_low {base e : Nat} (hl : ∀ d, d < w1.heap.size → w.heap[d]? = w1.heap[d]?) : ∀ {vs : List Value} {xss : List (List Int)}, Go.Pv.RowsIn w1 base e vs xss → Go.Pv.RowsIn w base e vs xss
  | [], xss, h => h
  | v :: vs, xss, ⟨xs, r, e1, h1, h⟩ => ⟨xs, r, e1, ownsRow_low h1 hl, RowsIn_low hl h⟩
theorem RowsIn_base {base base2 e : Nat} (hb : base2 ≤ base) : ∀ {vs : List Value} {xss : List (List Int)}, Go.Pv.RowsIn w base e vs xss → Go.Pv.RowsIn w base2 e vs xss
  | [], xss, h => h
  | v :: vs, xss, ⟨xs, r, e1, h1, h⟩ => ⟨xs, r, e1, ownsRow_base h1 hb, RowsIn_base hb h⟩
theorem RowsIn_mem {base e : Nat} : ∀ {vs : List Value} {xss : List (List Int)}, Go.Pv.RowsIn w base e vs xss → ∀ v ∈ vs, ∃ xs, Go.Pv.RowIn w base e v xs
  | [], xss, h, v, hv => by cases hv
  | u :: vs, xss, ⟨xs, r, e1, h1, h⟩, v, hv => by
    rcases List.mem_cons.1 hv with rfl | hv
    · exact ⟨xs, h1⟩
    · exact RowsIn_mem h v hv
theorem RowSt.low {base : Nat} {V : Value} {vs : List Value} {xss : List (List Int)} (h : RowSt w1 base V vs xss) (hl : ∀ d, d < w1.heap.size → w.heap[d]? = w1.heap[d]?) : RowSt w base V vs xss :=
  ⟨ownsRow_low h.own hl, RowsIn_low hl h.rows, h.blk, h.apart, h.outer⟩
theorem RowSt.base {base base2 : Nat} {V : Value} {vs : List Value} {xss : List (List Int)} (h : RowSt w base V vs xss) (hb : base2 ≤ base) : RowSt w base2 V vs xss :=
  ⟨ownsRow_base h.own hb, RowsIn_base hb h.rows, h.blk, h.apart, h.outer⟩
/-- A row is laid behind the others. -/
theorem RowSt.push {base d : Nat} {V u v : Value} {vs : List Value} {yss : List (List Int)} {xs : List Int} (hS : RowSt w base V vs yss) (hr : Go.Pv.RowIn w w1.heap.size 3 v xs) (hc : v.ownBlock = some d) (b0 : base ≤ w1.heap.size) (h1 : RowSt w1 base V vs yss)
    (hru : w2.ownsRow base 22 1 u (vs.length + 1) (vs ++ [v])) (hg : w.grownBy w2 V.ownBlock) (hnew : ∀ g, u.ownBlock = some g → V.ownBlock = some g ∨ w.heap.size ≤ g) : RowSt w2 base u (vs ++ [v]) (yss ++ [xs]) := by
  have hd := World.ownsRow.lt hr d hc
  have hV : ∀ g, V.ownBlock = some g → g < w1.heap.size := fun g hg => (h1.own.lt g hg).2
  have hvs : ∀ a ∈ vs, ∀ g, a.ownBlock = some g → g < w1.heap.size ∧ g < w.heap.size := fun a ha g hg' => by
    obtain ⟨ys, hy⟩ := RowsIn_mem h1.rows a ha
    obtain ⟨ys2, hy2⟩ := RowsIn_mem hS.rows a ha
    exact ⟨(World.ownsRow.lt hy g hg').2, (World.ownsRow.lt hy2 g hg').2⟩
  have hvV : v.ownBlock ≠ V.ownBlock := fun q => by rw [hc] at q; have := hV d q.symm; omega
  have hav : ∀ a ∈ vs, a.ownBlock ≠ v.ownBlock := fun a ha q => by rw [hc] at q; have := (hvs a ha d q).1; omega
  refine ⟨by rw [List.length_append]; exact hru, RowsIn.app (ownsRow_base (World.ownsRow.kept hr hg (.inr hvV)) b0) (hS.rows.kept hg fun a ha => .inr (hS.outer a ha)), fun a ha => ?_, ?_, fun a ha q => ?_⟩
  · rcases List.mem_append.1 ha with h | h
    · exact hS.blk a h
    · rw [List.mem_singleton.1 h]; exact ⟨d, hc⟩
  · rw [List.pairwise_append]
    refine ⟨hS.apart, List.pairwise_singleton _ _, fun a ha b hb => ?_⟩
    rw [List.mem_singleton.1 hb]
    exact hav a ha
  · rcases List.mem_append.1 ha with h | h
    · obtain ⟨g, hg'⟩ := hS.blk a h
      rw [hg'] at q
      rcases hnew g q.symm with q | q
      · exact hS.outer a h (hg'.trans q.symm)
      · have := (hvs a h g hg').2; omega
    · rw [List.mem_singleton.1 h, hc] at q
      rcases hnew d q.symm with q | q
      · exact hvV (hc.trans q.symm)
      · omega
theorem info22 : ∃ i z, Try.prog.info? 22 = some i ∧ i.zero = some z ∧ i.size = 1 ∧ i.bytes = 24 ∧ z.cells.size = 1 := by
  obtain ⟨i, h1, h2, h3, -⟩ := (tiOk 22).info (by decide +kernel)
  obtain ⟨-, -, -, i', z, h5, h6, h7⟩ := (tiOk 22).pure (by kernel_rfl)
  rw [h1] at h5; cases h5
  refine ⟨i, z, h1, h6, h2.trans (by kernel_rfl), h3.trans (by kernel_rfl), ?_⟩
  have := Rep.length (h7 (fun _ => False) default)
  rw [Array.length_toList] at this
  exact this.trans (by kernel_rfl)
theorem app_row {base d : Nat} {V v : Value} {vs : List Value} (h : w.ownsRow base 22 1 V vs.length vs) (hc : w.cell? ⟨d, 0, none⟩ = some v) (h1 : v.oneCell' = true) (hlen : vs.length + 1 ≤ 2000000000) (hb : base ≤ w.heap.size) :
    ∃ v' w', (Builtin.append_ #[38, 38] 38 #[V, .slice (some ⟨d, 0, none⟩) 1 1]).run Try.prog w = .ok v' w' ∧ w'.ownsRow base 22 1 v' (vs.length + 1) (vs ++ [v]) ∧ w.grownBy w' V.ownBlock ∧ w.drawn ≤ w'.drawn ∧ (∀ g, v'.ownBlock = some g → V.ownBlock = some g ∨ w.heap.size ≤ g) := by
  obtain ⟨i, z, i1, i2, i3, i4, i5⟩ := info22
  obtain ⟨v', w', h1, h2, h3, h4, h5, h6⟩ := append_own_d (P := Try.prog) base 38 38 22 i z 1 24 Try.underlying38 i1 i2 i3 i4 i5 (by decide) V vs.length vs h ⟨d, 0, none⟩ 1 1 [v] (by decide) rfl
    (fun j u hj => by
      cases j with
      | zero =>
        cases hj
        rw [Addr.add_lit]
        exact hc
      | succ j => simp at hj)
    (fun u hu => by rw [List.mem_singleton.1 hu]; exact h1) (by simp only [maxLen]; omega) (by omega) hb
  exact ⟨v', w', h1, h2, h3, h5, h6⟩
end
/-- What does not turn while the region runs. -/
structure C13 where
  tm : Array Value
  df : List Deferred
  w0 : World
  V7 : Value
  V9 : Value
  base : Nat
  g7 : Nat
  k : Nat
  c7 : Nat
  n7 : Nat
  gk : Nat
  ck : Nat
  b : Nat
  o : Nat
  nb : Nat
  cb : Nat
  j : Nat
  r : List Int
  x : Int
  vs : List Value
  yss : List (List Int)
structure H13 (c : C13) : Prop where
  t0 : c.tm.getD 0 undef = .slice (some ⟨c.b, c.o, none⟩) c.nb c.cb
  t7 : c.tm.getD 7 undef = c.V7
  t10 : c.tm.getD 10 undef = .int .i64 (c.k : Int)
  t11 : c.tm.getD 11 undef = .int .i64 (c.j : Int)
  v7 : c.V7 = .slice (some ⟨c.g7, 0, none⟩) c.n7 c.c7
  hk : c.k < c.n7
  hj : c.j < c.nb
  g7 : c.g7 < c.base
  gk : c.gk < c.base
  gb : c.b < c.base
  c7 : c.w0.cell? ⟨c.g7, c.k, none⟩ = some (.slice (some ⟨c.gk, 0, none⟩) c.r.length c.ck)
  ck : ∀ q, q < c.r.length → c.w0.cell? ⟨c.gk, q, none⟩ = some (.int .i64 (c.r.getD q 0))
  cb : c.w0.cell? ⟨c.b, c.o + c.j, none⟩ = some (.int .i64 c.x)
  b0 : c.base ≤ c.w0.heap.size
  r0 : 0 < c.r.length
  rl : c.r.length ≤ 10000
  vl : c.vs.length ≤ 1000000000
  S : RowSt c.w0 c.base c.V9 c.vs c.yss
/-- What holds while the region runs. -/
structure I13 (c : C13) (L : Nat → Bool) (a : Act) (w : World) : Prop where
  down : ∀ k q, L k = true → needs ops13 k q = true → L q = true
  df : a.defers = c.df
  size : a.tmps.size = 106
  keep : ∀ t, t ≠ 9 → (t < 73 ∨ 87 < t) → a.tmps.getD t undef = c.tm.getD t undef
  s9 : L 15 = false → a.tmps.getD 9 undef = c.V9
  gro : Gro c.base c.w0 w
  low : L 14 = false → ∀ d, d < c.w0.heap.size → w.heap[d]? = c.w0.heap[d]?
  f0 : L 0 = true → (a.tmps.getD 73 undef) = c.V9
  f2 : L 2 = true → (a.tmps.getD 75 undef) = c.V7
  f3 : L 3 = true → (a.tmps.getD 76 undef) = .int .i64 (c.k : Int)
  f4 : L 4 = true → (a.tmps.getD 77 undef) = .pointer (some ⟨c.g7, c.k, none⟩)
  f5 : L 5 = true → (a.tmps.getD 78 undef) = .slice (some ⟨c.gk, 0, none⟩) c.r.length c.ck
  f7 : L 7 = true → (a.tmps.getD 80 undef) = .slice (some ⟨c.b, c.o, none⟩) c.nb c.cb
  f8 : L 8 = true → (a.tmps.getD 81 undef) = .int .i64 (c.j : Int)
  f9 : L 9 = true → (a.tmps.getD 82 undef) = .pointer (some ⟨c.b, c.o + c.j, none⟩)
  f10 : L 10 = true → (a.tmps.getD 83 undef) = .int .i64 c.x
  f1 : L 1 = true → L 6 = false → Go.Pv.RowIn w c.w0.heap.size 3 (a.tmps.getD 74 undef) []
  f6 : L 6 = true → L 12 = false → Go.Pv.RowIn w c.w0.heap.size 3 (a.tmps.getD 79 undef) c.r
  f11 : L 11 = true → L 12 = false → ∃ d, a.tmps.getD 84 undef = .slice (some ⟨d, 0, none⟩) 1 1 ∧ c.w0.heap.size ≤ d ∧ d < w.heap.size ∧ w.cell? ⟨d, 0, none⟩ = some (.int .i64 c.x) ∧ (L 1 = true → L 6 = false → (a.tmps.getD 74 undef).ownBlock ≠ some d) ∧ (L 6 = true → (a.tmps.getD 79 undef).ownBlock ≠ some d)
  f12 : L 12 = true → L 14 = false → Go.Pv.RowIn w c.w0.heap.size 3 (a.tmps.getD 85 undef) (c.r ++ [c.x]) ∧ ∃ d, (a.tmps.getD 85 undef).ownBlock = some d
  f13 : L 13 = true → L 14 = false → ∃ d, a.tmps.getD 86 undef = .slice (some ⟨d, 0, none⟩) 1 1 ∧ c.w0.heap.size ≤ d ∧ d < w.heap.size ∧ w.cell? ⟨d, 0, none⟩ = some (a.tmps.getD 85 undef) ∧ (a.tmps.getD 85 undef).ownBlock ≠ some d
  f14 : L 14 = true → ∃ v, RowSt w c.base (a.tmps.getD 87 undef) (c.vs ++ [v]) (c.yss ++ [c.r ++ [c.x]])
  f15 : L 15 = true → a.tmps.getD 9 undef = a.tmps.getD 87 undef
section
variable {c : C13} {L : Nat → Bool} {a : Act} {w : World} {Q : Exit → Act → World → Prop}
theorem I13.ext {L' : Nat → Bool} (h : I13 c L a w) (e : ∀ k, L k = L' k) : I13 c L' a w := by
  have : L = L' := funext e
  rw [← this]; exact h
theorem I13.no (h : I13 c L a w) {k q : Nat} (hq : L q = false) (hn : needs ops13 k q = true) : L k = false := by
  cases hk : L k with
  | false => rfl
  | true => rw [h.down k q hk hn] at hq; cases hq
theorem st13_0 (H : H13 c) (hI : I13 c L a w) (hL : L 0 = false) (hn : ∀ k, needs ops13 0 k = true → L k = true) : wpOp Try.prog ops13 Q 0 (I13 c fun k => L k || Nat.beq k 0) a w := by
  have z15 : L 15 = false := hI.no hL (by kernel_rfl)
  obtain ⟨u, hu⟩ : ∃ u, u = a.tmps.getD 9 undef := ⟨_, rfl⟩
  have hv : u = c.V9 := hu.trans (hI.s9 z15)
  have hrun := x_move a (some 73) 9 38 (pos13 0) (aft13 0) w
  rw [← hu] at hrun
  rw [hv] at hrun
  clear hv hu u
  obtain ⟨u, hu⟩ : ∃ u : Value, u = c.V9 := ⟨_, rfl⟩
  rw [← hu] at hrun
  have e : ∀ k, Nat.beq k 0 = false → (L k || Nat.beq k 0) = L k := fun k h => by rw [h, Bool.or_false]
  have hd : 73 < a.tmps.size := by rw [hI.size]; decide
  refine wpOp_val o13_0 rfl hrun ?_
  have ps := put_at (v := u) hd
  have pg := fun t (h : 73 ≠ t) => put_ne (v := u) hd h
  constructor
  case down => exact down_put hI.down hn
  case df => exact hI.df
  case size => exact (put_size a 73 u).trans hI.size
  case keep => intro t h1 h2; rw [pg t (by omega)]; exact hI.keep t h1 h2
  case s9 => intro h; rw [pg 9 (by decide)]; exact hI.s9 z15
  case gro => exact hI.gro
  case low => intro h; rw [e 14 rfl] at h; exact hI.low h
  case f0 => intro _; exact ps.trans hu
  case f1 => intro h h2; rw [e 1 rfl] at h; rw [e 6 rfl] at h2; rw [pg 74 (by decide)]; exact hI.f1 h h2
  case f2 => intro h; rw [e 2 rfl] at h; rw [pg 75 (by decide)]; exact hI.f2 h
  case f3 => intro h; rw [e 3 rfl] at h; rw [pg 76 (by decide)]; exact hI.f3 h
  case f4 => intro h; rw [e 4 rfl] at h; rw [pg 77 (by decide)]; exact hI.f4 h
  case f5 => intro h; rw [e 5 rfl] at h; rw [pg 78 (by decide)]; exact hI.f5 h
  case f6 => intro h h2; rw [e 6 rfl] at h; rw [e 12 rfl] at h2; rw [pg 79 (by decide)]; exact hI.f6 h h2
  case f7 => intro h; rw [e 7 rfl] at h; rw [pg 80 (by decide)]; exact hI.f7 h
  case f8 => intro h; rw [e 8 rfl] at h; rw [pg 81 (by decide)]; exact hI.f8 h
  case f9 => intro h; rw [e 9 rfl] at h; rw [pg 82 (by decide)]; exact hI.f9 h
  case f10 => intro h; rw [e 10 rfl] at h; rw [pg 83 (by decide)]; exact hI.f10 h
  case f11 => intro h h2; rw [e 11 rfl] at h; rw [e 12 rfl] at h2; rw [pg 84 (by decide), pg 74 (by decide), pg 79 (by decide)]; obtain ⟨d, h3, h4, h5, h6, h7, h8⟩ := hI.f11 h h2; exact ⟨d, h3, h4, h5, h6, fun h h2 => h7 (by rw [e 1 rfl] at h; exact h) (by rw [e 6 rfl] at h2; exact h2), fun h => h8 (by rw [e 6 rfl] at h; exact h)⟩
  case f12 => intro h h2; rw [e 12 rfl] at h; rw [e 14 rfl] at h2; rw [pg 85 (by decide)]; obtain ⟨h3, h4⟩ := hI.f12 h h2; exact ⟨h3, h4⟩
  case f13 => intro h h2; rw [e 13 rfl] at h; rw [e 14 rfl] at h2; rw [pg 86 (by decide), pg 85 (by decide)]; obtain ⟨d, h3, h4, h5, h6, h7⟩ := hI.f13 h h2; exact ⟨d, h3, h4, h5, h6, h7⟩
  case f14 => intro h; rw [e 14 rfl] at h; rw [pg 87 (by decide)]; exact hI.f14 h
  case f15 => intro h; rw [e 15 rfl, z15] at h; cases h
theorem st13_2 (H : H13 c) (hI : I13 c L a w) (hL : L 2 = false) (hn : ∀ k, needs ops13 2 k = true → L k = true) : wpOp Try.prog ops13 Q 2 (I13 c fun k => L k || Nat.beq k 2) a w := by
  have z15 : L 15 = false := hI.no hL (by kernel_rfl)
  obtain ⟨u, hu⟩ : ∃ u, u = a.tmps.getD 7 undef := ⟨_, rfl⟩
  have hv : u = c.V7 := hu.trans ((hI.keep 7 (by decide) (by decide)).trans H.t7)
  have hrun := x_move a (some 75) 7 38 (pos13 2) (aft13 2) w
  rw [← hu] at hrun
  rw [hv] at hrun
  clear hv hu u
  obtain ⟨u, hu⟩ : ∃ u : Value, u = c.V7 := ⟨_, rfl⟩
  rw [← hu] at hrun
  have e : ∀ k, Nat.beq k 2 = false → (L k || Nat.beq k 2) = L k := fun k h => by rw [h, Bool.or_false]
  have hd : 75 < a.tmps.size := by rw [hI.size]; decide
  refine wpOp_val o13_2 rfl hrun ?_
  have ps := put_at (v := u) hd
  have pg := fun t (h : 75 ≠ t) => put_ne (v := u) hd h
  constructor
  case down => exact down_put hI.down hn
  case df => exact hI.df
  case size => exact (put_size a 75 u).trans hI.size
  case keep => intro t h1 h2; rw [pg t (by omega)]; exact hI.keep t h1 h2
  case s9 => intro h; rw [pg 9 (by decide)]; exact hI.s9 z15
  case gro => exact hI.gro
  case low => intro h; rw [e 14 rfl] at h; exact hI.low h
  case f0 => intro h; rw [e 0 rfl] at h; rw [pg 73 (by decide)]; exact hI.f0 h
  case f1 => intro h h2; rw [e 1 rfl] at h; rw [e 6 rfl] at h2; rw [pg 74 (by decide)]; exact hI.f1 h h2
  case f2 => intro _; exact ps.trans hu
  case f3 => intro h; rw [e 3 rfl] at h; rw [pg 76 (by decide)]; exact hI.f3 h
  case f4 => intro h; rw [e 4 rfl] at h; rw [pg 77 (by decide)]; exact hI.f4 h
  case f5 => intro h; rw [e 5 rfl] at h; rw [pg 78 (by decide)]; exact hI.f5 h
  case f6 => intro h h2; rw [e 6 rfl] at h; rw [e 12 rfl] at h2; rw [pg 79 (by decide)]; exact hI.f6 h h2
  case f7 => intro h; rw [e 7 rfl] at h; rw [pg 80 (by decide)]; exact hI.f7 h
  case f8 => intro h; rw [e 8 rfl] at h; rw [pg 81 (by decide)]; exact hI.f8 h
  case f9 => intro h; rw [e 9 rfl] at h; rw [pg 82 (by decide)]; exact hI.f9 h
  case f10 => intro h; rw [e 10 rfl] at h; rw [pg 83 (by decide)]; exact hI.f10 h
  case f11 => intro h h2; rw [e 11 rfl] at h; rw [e 12 rfl] at h2; rw [pg 84 (by decide), pg 74 (by decide), pg 79 (by decide)]; obtain ⟨d, h3, h4, h5, h6, h7, h8⟩ := hI.f11 h h2; exact ⟨d, h3, h4, h5, h6, fun h h2 => h7 (by rw [e 1 rfl] at h; exact h) (by rw [e 6 rfl] at h2; exact h2), fun h => h8 (by rw [e 6 rfl] at h; exact h)⟩
  case f12 => intro h h2; rw [e 12 rfl] at h; rw [e 14 rfl] at h2; rw [pg 85 (by decide)]; obtain ⟨h3, h4⟩ := hI.f12 h h2; exact ⟨h3, h4⟩
  case f13 => intro h h2; rw [e 13 rfl] at h; rw [e 14 rfl] at h2; rw [pg 86 (by decide), pg 85 (by decide)]; obtain ⟨d, h3, h4, h5, h6, h7⟩ := hI.f13 h h2; exact ⟨d, h3, h4, h5, h6, h7⟩
  case f14 => intro h; rw [e 14 rfl] at h; rw [pg 87 (by decide)]; exact hI.f14 h
  case f15 => intro h; rw [e 15 rfl, z15] at h; cases h
theorem st13_3 (H : H13 c) (hI : I13 c L a w) (hL : L 3 = false) (hn : ∀ k, needs ops13 3 k = true → L k = true) : wpOp Try.prog ops13 Q 3 (I13 c fun k => L k || Nat.beq k 3) a w := by
  have z15 : L 15 = false := hI.no hL (by kernel_rfl)
  obtain ⟨u, hu⟩ : ∃ u, u = a.tmps.getD 10 undef := ⟨_, rfl⟩
  have hv : u = .int .i64 (c.k : Int) := hu.trans ((hI.keep 10 (by decide) (by decide)).trans H.t10)
  have hrun := x_move a (some 76) 10 3 (pos13 3) (aft13 3) w
  rw [← hu] at hrun
  rw [hv] at hrun
  clear hv hu u
  obtain ⟨u, hu⟩ : ∃ u : Value, u = .int .i64 (c.k : Int) := ⟨_, rfl⟩
  rw [← hu] at hrun
  have e : ∀ k, Nat.beq k 3 = false → (L k || Nat.beq k 3) = L k := fun k h => by rw [h, Bool.or_false]
  have hd : 76 < a.tmps.size := by rw [hI.size]; decide
  refine wpOp_val o13_3 rfl hrun ?_
  have ps := put_at (v := u) hd
  have pg := fun t (h : 76 ≠ t) => put_ne (v := u) hd h
  constructor
  case down => exact down_put hI.down hn
  case df => exact hI.df
  case size => exact (put_size a 76 u).trans hI.size
  case keep => intro t h1 h2; rw [pg t (by omega)]; exact hI.keep t h1 h2
  case s9 => intro h; rw [pg 9 (by decide)]; exact hI.s9 z15
  case gro => exact hI.gro
  case low => intro h; rw [e 14 rfl] at h; exact hI.low h
  case f0 => intro h; rw [e 0 rfl] at h; rw [pg 73 (by decide)]; exact hI.f0 h
  case f1 => intro h h2; rw [e 1 rfl] at h; rw [e 6 rfl] at h2; rw [pg 74 (by decide)]; exact hI.f1 h h2
  case f2 => intro h; rw [e 2 rfl] at h; rw [pg 75 (by decide)]; exact hI.f2 h
  case f3 => intro _; exact ps.trans hu
  case f4 => intro h; rw [e 4 rfl] at h; rw [pg 77 (by decide)]; exact hI.f4 h
  case f5 => intro h; rw [e 5 rfl] at h; rw [pg 78 (by decide)]; exact hI.f5 h
  case f6 => intro h h2; rw [e 6 rfl] at h; rw [e 12 rfl] at h2; rw [pg 79 (by decide)]; exact hI.f6 h h2
  case f7 => intro h; rw [e 7 rfl] at h; rw [pg 80 (by decide)]; exact hI.f7 h
  case f8 => intro h; rw [e 8 rfl] at h; rw [pg 81 (by decide)]; exact hI.f8 h
  case f9 => intro h; rw [e 9 rfl] at h; rw [pg 82 (by decide)]; exact hI.f9 h
  case f10 => intro h; rw [e 10 rfl] at h; rw [pg 83 (by decide)]; exact hI.f10 h
  case f11 => intro h h2; rw [e 11 rfl] at h; rw [e 12 rfl] at h2; rw [pg 84 (by decide), pg 74 (by decide), pg 79 (by decide)]; obtain ⟨d, h3, h4, h5, h6, h7, h8⟩ := hI.f11 h h2; exact ⟨d, h3, h4, h5, h6, fun h h2 => h7 (by rw [e 1 rfl] at h; exact h) (by rw [e 6 rfl] at h2; exact h2), fun h => h8 (by rw [e 6 rfl] at h; exact h)⟩
  case f12 => intro h h2; rw [e 12 rfl] at h; rw [e 14 rfl] at h2; rw [pg 85 (by decide)]; obtain ⟨h3, h4⟩ := hI.f12 h h2; exact ⟨h3, h4⟩
  case f13 => intro h h2; rw [e 13 rfl] at h; rw [e 14 rfl] at h2; rw [pg 86 (by decide), pg 85 (by decide)]; obtain ⟨d, h3, h4, h5, h6, h7⟩ := hI.f13 h h2; exact ⟨d, h3, h4, h5, h6, h7⟩
  case f14 => intro h; rw [e 14 rfl] at h; rw [pg 87 (by decide)]; exact hI.f14 h
  case f15 => intro h; rw [e 15 rfl, z15] at h; cases h
theorem st13_7 (H : H13 c) (hI : I13 c L a w) (hL : L 7 = false) (hn : ∀ k, needs ops13 7 k = true → L k = true) : wpOp Try.prog ops13 Q 7 (I13 c fun k => L k || Nat.beq k 7) a w := by
  have z15 : L 15 = false := hI.no hL (by kernel_rfl)
  obtain ⟨u, hu⟩ : ∃ u, u = a.tmps.getD 0 undef := ⟨_, rfl⟩
  have hv : u = .slice (some ⟨c.b, c.o, none⟩) c.nb c.cb := hu.trans ((hI.keep 0 (by decide) (by decide)).trans H.t0)
  have hrun := x_move a (some 80) 0 22 (pos13 7) (aft13 7) w
  rw [← hu] at hrun
  rw [hv] at hrun
  clear hv hu u
  obtain ⟨u, hu⟩ : ∃ u : Value, u = .slice (some ⟨c.b, c.o, none⟩) c.nb c.cb := ⟨_, rfl⟩
  rw [← hu] at hrun
  have e : ∀ k, Nat.beq k 7 = false → (L k || Nat.beq k 7) = L k := fun k h => by rw [h, Bool.or_false]
  have hd : 80 < a.tmps.size := by rw [hI.size]; decide
  refine wpOp_val o13_7 rfl hrun ?_
  have ps := put_at (v := u) hd
  have pg := fun t (h : 80 ≠ t) => put_ne (v := u) hd h
  constructor
  case down => exact down_put hI.down hn
  case df => exact hI.df
  case size => exact (put_size a 80 u).trans hI.size
  case keep => intro t h1 h2; rw [pg t (by omega)]; exact hI.keep t h1 h2
  case s9 => intro h; rw [pg 9 (by decide)]; exact hI.s9 z15
  case gro => exact hI.gro
  case low => intro h; rw [e 14 rfl] at h; exact hI.low h
  case f0 => intro h; rw [e 0 rfl] at h; rw [pg 73 (by decide)]; exact hI.f0 h
  case f1 => intro h h2; rw [e 1 rfl] at h; rw [e 6 rfl] at h2; rw [pg 74 (by decide)]; exact hI.f1 h h2
  case f2 => intro h; rw [e 2 rfl] at h; rw [pg 75 (by decide)]; exact hI.f2 h
  case f3 => intro h; rw [e 3 rfl] at h; rw [pg 76 (by decide)]; exact hI.f3 h
  case f4 => intro h; rw [e 4 rfl] at h; rw [pg 77 (by decide)]; exact hI.f4 h
  case f5 => intro h; rw [e 5 rfl] at h; rw [pg 78 (by decide)]; exact hI.f5 h
  case f6 => intro h h2; rw [e 6 rfl] at h; rw [e 12 rfl] at h2; rw [pg 79 (by decide)]; exact hI.f6 h h2
  case f7 => intro _; exact ps.trans hu
  case f8 => intro h; rw [e 8 rfl] at h; rw [pg 81 (by decide)]; exact hI.f8 h
  case f9 => intro h; rw [e 9 rfl] at h; rw [pg 82 (by decide)]; exact hI.f9 h
  case f10 => intro h; rw [e 10 rfl] at h; rw [pg 83 (by decide)]; exact hI.f10 h
  case f11 => intro h h2; rw [e 11 rfl] at h; rw [e 12 rfl] at h2; rw [pg 84 (by decide), pg 74 (by decide), pg 79 (by decide)]; obtain ⟨d, h3, h4, h5, h6, h7, h8⟩ := hI.f11 h h2; exact ⟨d, h3, h4, h5, h6, fun h h2 => h7 (by rw [e 1 rfl] at h; exact h) (by rw [e 6 rfl] at h2; exact h2), fun h => h8 (by rw [e 6 rfl] at h; exact h)⟩
  case f12 => intro h h2; rw [e 12 rfl] at h; rw [e 14 rfl] at h2; rw [pg 85 (by decide)]; obtain ⟨h3, h4⟩ := hI.f12 h h2; exact ⟨h3, h4⟩
  case f13 => intro h h2; rw [e 13 rfl] at h; rw [e 14 rfl] at h2; rw [pg 86 (by decide), pg 85 (by decide)]; obtain ⟨d, h3, h4, h5, h6, h7⟩ := hI.f13 h h2; exact ⟨d, h3, h4, h5, h6, h7⟩
  case f14 => intro h; rw [e 14 rfl] at h; rw [pg 87 (by decide)]; exact hI.f14 h
  case f15 => intro h; rw [e 15 rfl, z15] at h; cases h
theorem st13_8 (H : H13 c) (hI : I13 c L a w) (hL : L 8 = false) (hn : ∀ k, needs ops13 8 k = true → L k = true) : wpOp Try.prog ops13 Q 8 (I13 c fun k => L k || Nat.beq k 8) a w := by
  have z15 : L 15 = false := hI.no hL (by kernel_rfl)
  obtain ⟨u, hu⟩ : ∃ u, u = a.tmps.getD 11 undef := ⟨_, rfl⟩
  have hv : u = .int .i64 (c.j : Int) := hu.trans ((hI.keep 11 (by decide) (by decide)).trans H.t11)
  have hrun := x_move a (some 81) 11 3 (pos13 8) (aft13 8) w
  rw [← hu] at hrun
  rw [hv] at hrun
  clear hv hu u
  obtain ⟨u, hu⟩ : ∃ u : Value, u = .int .i64 (c.j : Int) := ⟨_, rfl⟩
  rw [← hu] at hrun
  have e : ∀ k, Nat.beq k 8 = false → (L k || Nat.beq k 8) = L k := fun k h => by rw [h, Bool.or_false]
  have hd : 81 < a.tmps.size := by rw [hI.size]; decide
  refine wpOp_val o13_8 rfl hrun ?_
  have ps := put_at (v := u) hd
  have pg := fun t (h : 81 ≠ t) => put_ne (v := u) hd h
  constructor
  case down => exact down_put hI.down hn
  case df => exact hI.df
  case size => exact (put_size a 81 u).trans hI.size
  case keep => intro t h1 h2; rw [pg t (by omega)]; exact hI.keep t h1 h2
  case s9 => intro h; rw [pg 9 (by decide)]; exact hI.s9 z15
  case gro => exact hI.gro
  case low => intro h; rw [e 14 rfl] at h; exact hI.low h
  case f0 => intro h; rw [e 0 rfl] at h; rw [pg 73 (by decide)]; exact hI.f0 h
  case f1 => intro h h2; rw [e 1 rfl] at h; rw [e 6 rfl] at h2; rw [pg 74 (by decide)]; exact hI.f1 h h2
  case f2 => intro h; rw [e 2 rfl] at h; rw [pg 75 (by decide)]; exact hI.f2 h
  case f3 => intro h; rw [e 3 rfl] at h; rw [pg 76 (by decide)]; exact hI.f3 h
  case f4 => intro h; rw [e 4 rfl] at h; rw [pg 77 (by decide)]; exact hI.f4 h
  case f5 => intro h; rw [e 5 rfl] at h; rw [pg 78 (by decide)]; exact hI.f5 h
  case f6 => intro h h2; rw [e 6 rfl] at h; rw [e 12 rfl] at h2; rw [pg 79 (by decide)]; exact hI.f6 h h2
  case f7 => intro h; rw [e 7 rfl] at h; rw [pg 80 (by decide)]; exact hI.f7 h
  case f8 => intro _; exact ps.trans hu
  case f9 => intro h; rw [e 9 rfl] at h; rw [pg 82 (by decide)]; exact hI.f9 h
  case f10 => intro h; rw [e 10 rfl] at h; rw [pg 83 (by decide)]; exact hI.f10 h
  case f11 => intro h h2; rw [e 11 rfl] at h; rw [e 12 rfl] at h2; rw [pg 84 (by decide), pg 74 (by decide), pg 79 (by decide)]; obtain ⟨d, h3, h4, h5, h6, h7, h8⟩ := hI.f11 h h2; exact ⟨d, h3, h4, h5, h6, fun h h2 => h7 (by rw [e 1 rfl] at h; exact h) (by rw [e 6 rfl] at h2; exact h2), fun h => h8 (by rw [e 6 rfl] at h; exact h)⟩
  case f12 => intro h h2; rw [e 12 rfl] at h; rw [e 14 rfl] at h2; rw [pg 85 (by decide)]; obtain ⟨h3, h4⟩ := hI.f12 h h2; exact ⟨h3, h4⟩
  case f13 => intro h h2; rw [e 13 rfl] at h; rw [e 14 rfl] at h2; rw [pg 86 (by decide), pg 85 (by decide)]; obtain ⟨d, h3, h4, h5, h6, h7⟩ := hI.f13 h h2; exact ⟨d, h3, h4, h5, h6, h7⟩
  case f14 => intro h; rw [e 14 rfl] at h; rw [pg 87 (by decide)]; exact hI.f14 h
  case f15 => intro h; rw [e 15 rfl, z15] at h; cases h
theorem st13_4 (H : H13 c) (hI : I13 c L a w) (hL : L 4 = false) (hn : ∀ k, needs ops13 4 k = true → L k = true) : wpOp Try.prog ops13 Q 4 (I13 c fun k => L k || Nat.beq k 4) a w := by
  have n2 : L 2 = true := hn 2 (by kernel_rfl)
  have n3 : L 3 = true := hn 3 (by kernel_rfl)
  have z15 : L 15 = false := hI.no hL (by kernel_rfl)
  have hrun := x_index38 a (some 77) 75 76 0 (pos13 4) (aft13 4) w (b := c.g7) (o := 0) (k := c.k) ((hI.f2 n2).trans H.v7) (hI.f3 n3) H.hk
  rw [Nat.zero_add] at hrun
  obtain ⟨u, hu⟩ : ∃ u : Value, u = .pointer (some ⟨c.g7, c.k, none⟩) := ⟨_, rfl⟩
  rw [← hu] at hrun
  have e : ∀ k, Nat.beq k 4 = false → (L k || Nat.beq k 4) = L k := fun k h => by rw [h, Bool.or_false]
  have hd : 77 < a.tmps.size := by rw [hI.size]; decide
  refine wpOp_val o13_4 rfl hrun ?_
  have ps := put_at (v := u) hd
  have pg := fun t (h : 77 ≠ t) => put_ne (v := u) hd h
  constructor
  case down => exact down_put hI.down hn
  case df => exact hI.df
  case size => exact (put_size a 77 u).trans hI.size
  case keep => intro t h1 h2; rw [pg t (by omega)]; exact hI.keep t h1 h2
  case s9 => intro h; rw [pg 9 (by decide)]; exact hI.s9 z15
  case gro => exact hI.gro
  case low => intro h; rw [e 14 rfl] at h; exact hI.low h
  case f0 => intro h; rw [e 0 rfl] at h; rw [pg 73 (by decide)]; exact hI.f0 h
  case f1 => intro h h2; rw [e 1 rfl] at h; rw [e 6 rfl] at h2; rw [pg 74 (by decide)]; exact hI.f1 h h2
  case f2 => intro h; rw [e 2 rfl] at h; rw [pg 75 (by decide)]; exact hI.f2 h
  case f3 => intro h; rw [e 3 rfl] at h; rw [pg 76 (by decide)]; exact hI.f3 h
  case f4 => intro _; exact ps.trans hu
  case f5 => intro h; rw [e 5 rfl] at h; rw [pg 78 (by decide)]; exact hI.f5 h
  case f6 => intro h h2; rw [e 6 rfl] at h; rw [e 12 rfl] at h2; rw [pg 79 (by decide)]; exact hI.f6 h h2
  case f7 => intro h; rw [e 7 rfl] at h; rw [pg 80 (by decide)]; exact hI.f7 h
  case f8 => intro h; rw [e 8 rfl] at h; rw [pg 81 (by decide)]; exact hI.f8 h
  case f9 => intro h; rw [e 9 rfl] at h; rw [pg 82 (by decide)]; exact hI.f9 h
  case f10 => intro h; rw [e 10 rfl] at h; rw [pg 83 (by decide)]; exact hI.f10 h
  case f11 => intro h h2; rw [e 11 rfl] at h; rw [e 12 rfl] at h2; rw [pg 84 (by decide), pg 74 (by decide), pg 79 (by decide)]; obtain ⟨d, h3, h4, h5, h6, h7, h8⟩ := hI.f11 h h2; exact ⟨d, h3, h4, h5, h6, fun h h2 => h7 (by rw [e 1 rfl] at h; exact h) (by rw [e 6 rfl] at h2; exact h2), fun h => h8 (by rw [e 6 rfl] at h; exact h)⟩
  case f12 => intro h h2; rw [e 12 rfl] at h; rw [e 14 rfl] at h2; rw [pg 85 (by decide)]; obtain ⟨h3, h4⟩ := hI.f12 h h2; exact ⟨h3, h4⟩
  case f13 => intro h h2; rw [e 13 rfl] at h; rw [e 14 rfl] at h2; rw [pg 86 (by decide), pg 85 (by decide)]; obtain ⟨d, h3, h4, h5, h6, h7⟩ := hI.f13 h h2; exact ⟨d, h3, h4, h5, h6, h7⟩
  case f14 => intro h; rw [e 14 rfl] at h; rw [pg 87 (by decide)]; exact hI.f14 h
  case f15 => intro h; rw [e 15 rfl, z15] at h; cases h
theorem st13_5 (H : H13 c) (hI : I13 c L a w) (hL : L 5 = false) (hn : ∀ k, needs ops13 5 k = true → L k = true) : wpOp Try.prog ops13 Q 5 (I13 c fun k => L k || Nat.beq k 5) a w := by
  have n4 : L 4 = true := hn 4 (by kernel_rfl)
  have z15 : L 15 = false := hI.no hL (by kernel_rfl)
  have hrun := x_load22 a (some 78) 77 22 (pos13 5) (aft13 5) w (hI.f4 n4) ((World.cell?_of_block (hI.gro.same c.g7 H.g7)).trans H.c7)
  obtain ⟨u, hu⟩ : ∃ u : Value, u = .slice (some ⟨c.gk, 0, none⟩) c.r.length c.ck := ⟨_, rfl⟩
  rw [← hu] at hrun
  have e : ∀ k, Nat.beq k 5 = false → (L k || Nat.beq k 5) = L k := fun k h => by rw [h, Bool.or_false]
  have hd : 78 < a.tmps.size := by rw [hI.size]; decide
  refine wpOp_val o13_5 rfl hrun ?_
  have ps := put_at (v := u) hd
  have pg := fun t (h : 78 ≠ t) => put_ne (v := u) hd h
  constructor
  case down => exact down_put hI.down hn
  case df => exact hI.df
  case size => exact (put_size a 78 u).trans hI.size
  case keep => intro t h1 h2; rw [pg t (by omega)]; exact hI.keep t h1 h2
  case s9 => intro h; rw [pg 9 (by decide)]; exact hI.s9 z15
  case gro => exact hI.gro
  case low => intro h; rw [e 14 rfl] at h; exact hI.low h
  case f0 => intro h; rw [e 0 rfl] at h; rw [pg 73 (by decide)]; exact hI.f0 h
  case f1 => intro h h2; rw [e 1 rfl] at h; rw [e 6 rfl] at h2; rw [pg 74 (by decide)]; exact hI.f1 h h2
  case f2 => intro h; rw [e 2 rfl] at h; rw [pg 75 (by decide)]; exact hI.f2 h
  case f3 => intro h; rw [e 3 rfl] at h; rw [pg 76 (by decide)]; exact hI.f3 h
  case f4 => intro h; rw [e 4 rfl] at h; rw [pg 77 (by decide)]; exact hI.f4 h
  case f5 => intro _; exact ps.trans hu
  case f6 => intro h h2; rw [e 6 rfl] at h; rw [e 12 rfl] at h2; rw [pg 79 (by decide)]; exact hI.f6 h h2
  case f7 => intro h; rw [e 7 rfl] at h; rw [pg 80 (by decide)]; exact hI.f7 h
  case f8 => intro h; rw [e 8 rfl] at h; rw [pg 81 (by decide)]; exact hI.f8 h
  case f9 => intro h; rw [e 9 rfl] at h; rw [pg 82 (by decide)]; exact hI.f9 h
  case f10 => intro h; rw [e 10 rfl] at h; rw [pg 83 (by decide)]; exact hI.f10 h
  case f11 => intro h h2; rw [e 11 rfl] at h; rw [e 12 rfl] at h2; rw [pg 84 (by decide), pg 74 (by decide), pg 79 (by decide)]; obtain ⟨d, h3, h4, h5, h6, h7, h8⟩ := hI.f11 h h2; exact ⟨d, h3, h4, h5, h6, fun h h2 => h7 (by rw [e 1 rfl] at h; exact h) (by rw [e 6 rfl] at h2; exact h2), fun h => h8 (by rw [e 6 rfl] at h; exact h)⟩
  case f12 => intro h h2; rw [e 12 rfl] at h; rw [e 14 rfl] at h2; rw [pg 85 (by decide)]; obtain ⟨h3, h4⟩ := hI.f12 h h2; exact ⟨h3, h4⟩
  case f13 => intro h h2; rw [e 13 rfl] at h; rw [e 14 rfl] at h2; rw [pg 86 (by decide), pg 85 (by decide)]; obtain ⟨d, h3, h4, h5, h6, h7⟩ := hI.f13 h h2; exact ⟨d, h3, h4, h5, h6, h7⟩
  case f14 => intro h; rw [e 14 rfl] at h; rw [pg 87 (by decide)]; exact hI.f14 h
  case f15 => intro h; rw [e 15 rfl, z15] at h; cases h
theorem st13_9 (H : H13 c) (hI : I13 c L a w) (hL : L 9 = false) (hn : ∀ k, needs ops13 9 k = true → L k = true) : wpOp Try.prog ops13 Q 9 (I13 c fun k => L k || Nat.beq k 9) a w := by
  have n7 : L 7 = true := hn 7 (by kernel_rfl)
  have n8 : L 8 = true := hn 8 (by kernel_rfl)
  have z15 : L 15 = false := hI.no hL (by kernel_rfl)
  have hrun := x_index22 a (some 82) 80 81 0 (pos13 9) (aft13 9) w (k := c.j) (hI.f7 n7) (hI.f8 n8) H.hj
  obtain ⟨u, hu⟩ : ∃ u : Value, u = .pointer (some ⟨c.b, c.o + c.j, none⟩) := ⟨_, rfl⟩
  rw [← hu] at hrun
  have e : ∀ k, Nat.beq k 9 = false → (L k || Nat.beq k 9) = L k := fun k h => by rw [h, Bool.or_false]
  have hd : 82 < a.tmps.size := by rw [hI.size]; decide
  refine wpOp_val o13_9 rfl hrun ?_
  have ps := put_at (v := u) hd
  have pg := fun t (h : 82 ≠ t) => put_ne (v := u) hd h
  constructor
  case down => exact down_put hI.down hn
  case df => exact hI.df
  case size => exact (put_size a 82 u).trans hI.size
  case keep => intro t h1 h2; rw [pg t (by omega)]; exact hI.keep t h1 h2
  case s9 => intro h; rw [pg 9 (by decide)]; exact hI.s9 z15
  case gro => exact hI.gro
  case low => intro h; rw [e 14 rfl] at h; exact hI.low h
  case f0 => intro h; rw [e 0 rfl] at h; rw [pg 73 (by decide)]; exact hI.f0 h
  case f1 => intro h h2; rw [e 1 rfl] at h; rw [e 6 rfl] at h2; rw [pg 74 (by decide)]; exact hI.f1 h h2
  case f2 => intro h; rw [e 2 rfl] at h; rw [pg 75 (by decide)]; exact hI.f2 h
  case f3 => intro h; rw [e 3 rfl] at h; rw [pg 76 (by decide)]; exact hI.f3 h
  case f4 => intro h; rw [e 4 rfl] at h; rw [pg 77 (by decide)]; exact hI.f4 h
  case f5 => intro h; rw [e 5 rfl] at h; rw [pg 78 (by decide)]; exact hI.f5 h
  case f6 => intro h h2; rw [e 6 rfl] at h; rw [e 12 rfl] at h2; rw [pg 79 (by decide)]; exact hI.f6 h h2
  case f7 => intro h; rw [e 7 rfl] at h; rw [pg 80 (by decide)]; exact hI.f7 h
  case f8 => intro h; rw [e 8 rfl] at h; rw [pg 81 (by decide)]; exact hI.f8 h
  case f9 => intro _; exact ps.trans hu
  case f10 => intro h; rw [e 10 rfl] at h; rw [pg 83 (by decide)]; exact hI.f10 h
  case f11 => intro h h2; rw [e 11 rfl] at h; rw [e 12 rfl] at h2; rw [pg 84 (by decide), pg 74 (by decide), pg 79 (by decide)]; obtain ⟨d, h3, h4, h5, h6, h7, h8⟩ := hI.f11 h h2; exact ⟨d, h3, h4, h5, h6, fun h h2 => h7 (by rw [e 1 rfl] at h; exact h) (by rw [e 6 rfl] at h2; exact h2), fun h => h8 (by rw [e 6 rfl] at h; exact h)⟩
  case f12 => intro h h2; rw [e 12 rfl] at h; rw [e 14 rfl] at h2; rw [pg 85 (by decide)]; obtain ⟨h3, h4⟩ := hI.f12 h h2; exact ⟨h3, h4⟩
  case f13 => intro h h2; rw [e 13 rfl] at h; rw [e 14 rfl] at h2; rw [pg 86 (by decide), pg 85 (by decide)]; obtain ⟨d, h3, h4, h5, h6, h7⟩ := hI.f13 h h2; exact ⟨d, h3, h4, h5, h6, h7⟩
  case f14 => intro h; rw [e 14 rfl] at h; rw [pg 87 (by decide)]; exact hI.f14 h
  case f15 => intro h; rw [e 15 rfl, z15] at h; cases h
theorem st13_10 (H : H13 c) (hI : I13 c L a w) (hL : L 10 = false) (hn : ∀ k, needs ops13 10 k = true → L k = true) : wpOp Try.prog ops13 Q 10 (I13 c fun k => L k || Nat.beq k 10) a w := by
  have n9 : L 9 = true := hn 9 (by kernel_rfl)
  have z15 : L 15 = false := hI.no hL (by kernel_rfl)
  have hrun := x_load3 a (some 83) 82 3 (pos13 10) (aft13 10) w (hI.f9 n9) ((World.cell?_of_block (hI.gro.same c.b H.gb)).trans H.cb)
  obtain ⟨u, hu⟩ : ∃ u : Value, u = .int .i64 c.x := ⟨_, rfl⟩
  rw [← hu] at hrun
  have e : ∀ k, Nat.beq k 10 = false → (L k || Nat.beq k 10) = L k := fun k h => by rw [h, Bool.or_false]
  have hd : 83 < a.tmps.size := by rw [hI.size]; decide
  refine wpOp_val o13_10 rfl hrun ?_
  have ps := put_at (v := u) hd
  have pg := fun t (h : 83 ≠ t) => put_ne (v := u) hd h
  constructor
  case down => exact down_put hI.down hn
  case df => exact hI.df
  case size => exact (put_size a 83 u).trans hI.size
  case keep => intro t h1 h2; rw [pg t (by omega)]; exact hI.keep t h1 h2
  case s9 => intro h; rw [pg 9 (by decide)]; exact hI.s9 z15
  case gro => exact hI.gro
  case low => intro h; rw [e 14 rfl] at h; exact hI.low h
  case f0 => intro h; rw [e 0 rfl] at h; rw [pg 73 (by decide)]; exact hI.f0 h
  case f1 => intro h h2; rw [e 1 rfl] at h; rw [e 6 rfl] at h2; rw [pg 74 (by decide)]; exact hI.f1 h h2
  case f2 => intro h; rw [e 2 rfl] at h; rw [pg 75 (by decide)]; exact hI.f2 h
  case f3 => intro h; rw [e 3 rfl] at h; rw [pg 76 (by decide)]; exact hI.f3 h
  case f4 => intro h; rw [e 4 rfl] at h; rw [pg 77 (by decide)]; exact hI.f4 h
  case f5 => intro h; rw [e 5 rfl] at h; rw [pg 78 (by decide)]; exact hI.f5 h
  case f6 => intro h h2; rw [e 6 rfl] at h; rw [e 12 rfl] at h2; rw [pg 79 (by decide)]; exact hI.f6 h h2
  case f7 => intro h; rw [e 7 rfl] at h; rw [pg 80 (by decide)]; exact hI.f7 h
  case f8 => intro h; rw [e 8 rfl] at h; rw [pg 81 (by decide)]; exact hI.f8 h
  case f9 => intro h; rw [e 9 rfl] at h; rw [pg 82 (by decide)]; exact hI.f9 h
  case f10 => intro _; exact ps.trans hu
  case f11 => intro h h2; rw [e 11 rfl] at h; rw [e 12 rfl] at h2; rw [pg 84 (by decide), pg 74 (by decide), pg 79 (by decide)]; obtain ⟨d, h3, h4, h5, h6, h7, h8⟩ := hI.f11 h h2; exact ⟨d, h3, h4, h5, h6, fun h h2 => h7 (by rw [e 1 rfl] at h; exact h) (by rw [e 6 rfl] at h2; exact h2), fun h => h8 (by rw [e 6 rfl] at h; exact h)⟩
  case f12 => intro h h2; rw [e 12 rfl] at h; rw [e 14 rfl] at h2; rw [pg 85 (by decide)]; obtain ⟨h3, h4⟩ := hI.f12 h h2; exact ⟨h3, h4⟩
  case f13 => intro h h2; rw [e 13 rfl] at h; rw [e 14 rfl] at h2; rw [pg 86 (by decide), pg 85 (by decide)]; obtain ⟨d, h3, h4, h5, h6, h7⟩ := hI.f13 h h2; exact ⟨d, h3, h4, h5, h6, h7⟩
  case f14 => intro h; rw [e 14 rfl] at h; rw [pg 87 (by decide)]; exact hI.f14 h
  case f15 => intro h; rw [e 15 rfl, z15] at h; cases h
theorem st13_1 (H : H13 c) (hI : I13 c L a w) (hL : L 1 = false) (hn : ∀ k, needs ops13 1 k = true → L k = true) : wpOp Try.prog ops13 Q 1 (I13 c fun k => L k || Nat.beq k 1) a w := by
  have z15 : L 15 = false := hI.no hL (by kernel_rfl)
  have z6 : L 6 = false := hI.no hL (by kernel_rfl)
  have z12 : L 12 = false := hI.no z6 (by kernel_rfl)
  have z13 : L 13 = false := hI.no z12 (by kernel_rfl)
  have z14 : L 14 = false := hI.no z13 (by kernel_rfl)
  have hrun := x_build0 a (some 74) 22 (pos13 1) (aft13 1) w
  obtain ⟨u, hu⟩ : ∃ u : Value, u = .slice (some ⟨w.heap.size, 0, none⟩) 0 0 := ⟨_, rfl⟩
  rw [← hu] at hrun
  have e : ∀ k, Nat.beq k 1 = false → (L k || Nat.beq k 1) = L k := fun k h => by rw [h, Bool.or_false]
  have hd : 74 < a.tmps.size := by rw [hI.size]; decide
  refine wpOp_val o13_1 rfl hrun ?_
  have ps := put_at (v := u) hd
  have pg := fun t (h : 74 ≠ t) => put_ne (v := u) hd h
  constructor
  case down => exact down_put hI.down hn
  case df => exact hI.df
  case size => exact (put_size a 74 u).trans hI.size
  case keep => intro t h1 h2; rw [pg t (by omega)]; exact hI.keep t h1 h2
  case s9 => intro h; rw [pg 9 (by decide)]; exact hI.s9 z15
  case gro => exact hI.gro.alloc H.b0 _
  case low => intro h; rw [e 14 rfl] at h; exact fun d hc => (heap_alloc_old w _ (Nat.lt_of_lt_of_le hc hI.gro.size)).trans (hI.low h d hc)
  case f0 => intro h; rw [e 0 rfl] at h; rw [pg 73 (by decide)]; exact hI.f0 h
  case f1 => intro _ _; rw [ps, hu]; exact World.ownsRow_made w #[] 0 hI.gro.size (by decide) rfl
  case f2 => intro h; rw [e 2 rfl] at h; rw [pg 75 (by decide)]; exact hI.f2 h
  case f3 => intro h; rw [e 3 rfl] at h; rw [pg 76 (by decide)]; exact hI.f3 h
  case f4 => intro h; rw [e 4 rfl] at h; rw [pg 77 (by decide)]; exact hI.f4 h
  case f5 => intro h; rw [e 5 rfl] at h; rw [pg 78 (by decide)]; exact hI.f5 h
  case f6 => intro h h2; rw [e 6 rfl] at h; rw [e 12 rfl] at h2; rw [pg 79 (by decide)]; exact RowIn.alloc (hI.f6 h h2) _
  case f7 => intro h; rw [e 7 rfl] at h; rw [pg 80 (by decide)]; exact hI.f7 h
  case f8 => intro h; rw [e 8 rfl] at h; rw [pg 81 (by decide)]; exact hI.f8 h
  case f9 => intro h; rw [e 9 rfl] at h; rw [pg 82 (by decide)]; exact hI.f9 h
  case f10 => intro h; rw [e 10 rfl] at h; rw [pg 83 (by decide)]; exact hI.f10 h
  case f11 => intro h h2; rw [e 11 rfl] at h; rw [e 12 rfl] at h2; rw [pg 84 (by decide), ps]; obtain ⟨d, h3, h4, h5, h6x, h7, h8⟩ := hI.f11 h h2; exact ⟨d, h3, h4, Nat.lt_of_lt_of_le h5 (size_alloc_le w _), (World.cell?_of_block (heap_alloc_old w _ h5)).trans h6x, fun _ _ => by (rw [hu]; intro q; have q : some w.heap.size = some d := q; cases q; omega), fun h => by (rw [e 6 rfl, z6] at h; cases h)⟩
  case f12 => intro h h2; rw [e 12 rfl] at h; rw [e 14 rfl] at h2; rw [pg 85 (by decide)]; obtain ⟨h3, h4⟩ := hI.f12 h h2; exact ⟨RowIn.alloc h3 _, h4⟩
  case f13 => intro h h2; rw [e 13 rfl] at h; rw [e 14 rfl] at h2; rw [pg 86 (by decide), pg 85 (by decide)]; obtain ⟨d, h3, h4, h5, h6, h7⟩ := hI.f13 h h2; exact ⟨d, h3, h4, Nat.lt_of_lt_of_le h5 (size_alloc_le w _), (World.cell?_of_block (heap_alloc_old w _ h5)).trans h6, h7⟩
  case f14 => intro h; rw [e 14 rfl] at h; rw [z14] at h; cases h
  case f15 => intro h; rw [e 15 rfl, z15] at h; cases h
theorem st13_11 (H : H13 c) (hI : I13 c L a w) (hL : L 11 = false) (hn : ∀ k, needs ops13 11 k = true → L k = true) : wpOp Try.prog ops13 Q 11 (I13 c fun k => L k || Nat.beq k 11) a w := by
  have n10 : L 10 = true := hn 10 (by kernel_rfl)
  have z15 : L 15 = false := hI.no hL (by kernel_rfl)
  have z12 : L 12 = false := hI.no hL (by kernel_rfl)
  have z13 : L 13 = false := hI.no z12 (by kernel_rfl)
  have z14 : L 14 = false := hI.no z13 (by kernel_rfl)
  have hrun := x_build1 a (some 84) 83 22 (pos13 11) (aft13 11) w (hI.f10 n10)
  obtain ⟨u, hu⟩ : ∃ u : Value, u = .slice (some ⟨w.heap.size, 0, none⟩) 1 1 := ⟨_, rfl⟩
  rw [← hu] at hrun
  have e : ∀ k, Nat.beq k 11 = false → (L k || Nat.beq k 11) = L k := fun k h => by rw [h, Bool.or_false]
  have hd : 84 < a.tmps.size := by rw [hI.size]; decide
  refine wpOp_val o13_11 rfl hrun ?_
  have ps := put_at (v := u) hd
  have pg := fun t (h : 84 ≠ t) => put_ne (v := u) hd h
  constructor
  case down => exact down_put hI.down hn
  case df => exact hI.df
  case size => exact (put_size a 84 u).trans hI.size
  case keep => intro t h1 h2; rw [pg t (by omega)]; exact hI.keep t h1 h2
  case s9 => intro h; rw [pg 9 (by decide)]; exact hI.s9 z15
  case gro => exact hI.gro.alloc H.b0 _
  case low => intro h; rw [e 14 rfl] at h; exact fun d hc => (heap_alloc_old w _ (Nat.lt_of_lt_of_le hc hI.gro.size)).trans (hI.low h d hc)
  case f0 => intro h; rw [e 0 rfl] at h; rw [pg 73 (by decide)]; exact hI.f0 h
  case f1 => intro h h2; rw [e 1 rfl] at h; rw [e 6 rfl] at h2; rw [pg 74 (by decide)]; exact RowIn.alloc (hI.f1 h h2) _
  case f2 => intro h; rw [e 2 rfl] at h; rw [pg 75 (by decide)]; exact hI.f2 h
  case f3 => intro h; rw [e 3 rfl] at h; rw [pg 76 (by decide)]; exact hI.f3 h
  case f4 => intro h; rw [e 4 rfl] at h; rw [pg 77 (by decide)]; exact hI.f4 h
  case f5 => intro h; rw [e 5 rfl] at h; rw [pg 78 (by decide)]; exact hI.f5 h
  case f6 => intro h h2; rw [e 6 rfl] at h; rw [e 12 rfl] at h2; rw [pg 79 (by decide)]; exact RowIn.alloc (hI.f6 h h2) _
  case f7 => intro h; rw [e 7 rfl] at h; rw [pg 80 (by decide)]; exact hI.f7 h
  case f8 => intro h; rw [e 8 rfl] at h; rw [pg 81 (by decide)]; exact hI.f8 h
  case f9 => intro h; rw [e 9 rfl] at h; rw [pg 82 (by decide)]; exact hI.f9 h
  case f10 => intro h; rw [e 10 rfl] at h; rw [pg 83 (by decide)]; exact hI.f10 h
  case f11 => intro _ _; rw [ps, pg 74 (by decide), pg 79 (by decide), hu]; exact ⟨_, rfl, hI.gro.size, size_alloc_lt w _, cell_alloc_new w _ _, fun h h2 q => by (rw [e 1 rfl] at h; rw [e 6 rfl] at h2; have := (World.ownsRow.lt (hI.f1 h h2) _ q).2; omega), fun h q => by (rw [e 6 rfl] at h; have := (World.ownsRow.lt (hI.f6 h z12) _ q).2; omega)⟩
  case f12 => intro h h2; rw [e 12 rfl] at h; rw [e 14 rfl] at h2; rw [pg 85 (by decide)]; obtain ⟨h3, h4⟩ := hI.f12 h h2; exact ⟨RowIn.alloc h3 _, h4⟩
  case f13 => intro h h2; rw [e 13 rfl] at h; rw [e 14 rfl] at h2; rw [pg 86 (by decide), pg 85 (by decide)]; obtain ⟨d, h3, h4, h5, h6, h7⟩ := hI.f13 h h2; exact ⟨d, h3, h4, Nat.lt_of_lt_of_le h5 (size_alloc_le w _), (World.cell?_of_block (heap_alloc_old w _ h5)).trans h6, h7⟩
  case f14 => intro h; rw [e 14 rfl] at h; rw [z14] at h; cases h
  case f15 => intro h; rw [e 15 rfl, z15] at h; cases h
theorem st13_13 (H : H13 c) (hI : I13 c L a w) (hL : L 13 = false) (hn : ∀ k, needs ops13 13 k = true → L k = true) : wpOp Try.prog ops13 Q 13 (I13 c fun k => L k || Nat.beq k 13) a w := by
  have n12 : L 12 = true := hn 12 (by kernel_rfl)
  have z15 : L 15 = false := hI.no hL (by kernel_rfl)
  have z14 : L 14 = false := hI.no hL (by kernel_rfl)
  obtain ⟨hr85, c85, hc85⟩ := hI.f12 n12 z14
  obtain ⟨B, nn, cc, hB⟩ : ∃ B nn cc, a.tmps.getD 85 undef = .slice B nn cc := RowIn.slice hr85
  have hrun := x_build38 a (some 86) 85 38 (pos13 13) (aft13 13) w hB
  obtain ⟨u, hu⟩ : ∃ u : Value, u = .slice (some ⟨w.heap.size, 0, none⟩) 1 1 := ⟨_, rfl⟩
  rw [← hu] at hrun
  have e : ∀ k, Nat.beq k 13 = false → (L k || Nat.beq k 13) = L k := fun k h => by rw [h, Bool.or_false]
  have hd : 86 < a.tmps.size := by rw [hI.size]; decide
  refine wpOp_val o13_13 rfl hrun ?_
  have ps := put_at (v := u) hd
  have pg := fun t (h : 86 ≠ t) => put_ne (v := u) hd h
  constructor
  case down => exact down_put hI.down hn
  case df => exact hI.df
  case size => exact (put_size a 86 u).trans hI.size
  case keep => intro t h1 h2; rw [pg t (by omega)]; exact hI.keep t h1 h2
  case s9 => intro h; rw [pg 9 (by decide)]; exact hI.s9 z15
  case gro => exact hI.gro.alloc H.b0 _
  case low => intro h; rw [e 14 rfl] at h; exact fun d hc => (heap_alloc_old w _ (Nat.lt_of_lt_of_le hc hI.gro.size)).trans (hI.low h d hc)
  case f0 => intro h; rw [e 0 rfl] at h; rw [pg 73 (by decide)]; exact hI.f0 h
  case f1 => intro h h2; rw [e 1 rfl] at h; rw [e 6 rfl] at h2; rw [pg 74 (by decide)]; exact RowIn.alloc (hI.f1 h h2) _
  case f2 => intro h; rw [e 2 rfl] at h; rw [pg 75 (by decide)]; exact hI.f2 h
  case f3 => intro h; rw [e 3 rfl] at h; rw [pg 76 (by decide)]; exact hI.f3 h
  case f4 => intro h; rw [e 4 rfl] at h; rw [pg 77 (by decide)]; exact hI.f4 h
  case f5 => intro h; rw [e 5 rfl] at h; rw [pg 78 (by decide)]; exact hI.f5 h
  case f6 => intro h h2; rw [e 6 rfl] at h; rw [e 12 rfl] at h2; rw [pg 79 (by decide)]; exact RowIn.alloc (hI.f6 h h2) _
  case f7 => intro h; rw [e 7 rfl] at h; rw [pg 80 (by decide)]; exact hI.f7 h
  case f8 => intro h; rw [e 8 rfl] at h; rw [pg 81 (by decide)]; exact hI.f8 h
  case f9 => intro h; rw [e 9 rfl] at h; rw [pg 82 (by decide)]; exact hI.f9 h
  case f10 => intro h; rw [e 10 rfl] at h; rw [pg 83 (by decide)]; exact hI.f10 h
  case f11 => intro h h2; rw [e 11 rfl] at h; rw [e 12 rfl] at h2; rw [pg 84 (by decide), pg 74 (by decide), pg 79 (by decide)]; obtain ⟨d, h3, h4, h5, h6, h7, h8⟩ := hI.f11 h h2; exact ⟨d, h3, h4, Nat.lt_of_lt_of_le h5 (size_alloc_le w _), (World.cell?_of_block (heap_alloc_old w _ h5)).trans h6, fun h h2 => h7 (by rw [e 1 rfl] at h; exact h) (by rw [e 6 rfl] at h2; exact h2), fun h => h8 (by rw [e 6 rfl] at h; exact h)⟩
  case f12 => intro h h2; rw [e 12 rfl] at h; rw [e 14 rfl] at h2; rw [pg 85 (by decide)]; obtain ⟨h3, h4⟩ := hI.f12 h h2; exact ⟨RowIn.alloc h3 _, h4⟩
  case f13 => intro _ _; rw [ps, pg 85 (by decide), hu]; refine ⟨_, rfl, hI.gro.size, size_alloc_lt w _, ?_, fun q => by (have := (World.ownsRow.lt hr85 _ q).2; omega)⟩; rw [hB]; exact cell_alloc_new w _ _
  case f14 => intro h; rw [e 14 rfl] at h; rw [z14] at h; cases h
  case f15 => intro h; rw [e 15 rfl, z15] at h; cases h
theorem st13_6 (H : H13 c) (hI : I13 c L a w) (hL : L 6 = false) (hn : ∀ k, needs ops13 6 k = true → L k = true) : wpOp Try.prog ops13 Q 6 (I13 c fun k => L k || Nat.beq k 6) a w := by
  have n1 : L 1 = true := hn 1 (by kernel_rfl)
  have n5 : L 5 = true := hn 5 (by kernel_rfl)
  have z15 : L 15 = false := hI.no hL (by kernel_rfl)
  have z12 : L 12 = false := hI.no hL (by kernel_rfl)
  have z13 : L 13 = false := hI.no z12 (by kernel_rfl)
  have z14 : L 14 = false := hI.no z13 (by kernel_rfl)
  have hr74 := hI.f1 n1 hL
  have hbl : ∀ d, (a.tmps.getD 74 undef).ownBlock = some d → c.w0.heap.size ≤ d := fun d q => (World.ownsRow.lt hr74 d q).1
  obtain ⟨u, w2, hap, hru, hg, hdr, hnew, hsome⟩ := app_int hr74 (ad := ⟨c.gk, 0, none⟩) (cp := c.ck) H.r0 rfl (fun q hq => by (rw [Addr.add_lit, World.cell?_of_block (hI.gro.same c.gk H.gk), Nat.zero_add]; exact H.ck q hq)) (by have := H.rl; simp; omega) hI.gro.size
  have hrun := x_append (T := 22) a (some 79) 74 78 22 (pos13 6) (aft13 6) w w2 rfl (hI.f5 n5) hap
  rw [List.nil_append] at hru
  have e : ∀ k, Nat.beq k 6 = false → (L k || Nat.beq k 6) = L k := fun k h => by rw [h, Bool.or_false]
  have hd : 79 < a.tmps.size := by rw [hI.size]; decide
  refine wpOp_val o13_6 rfl hrun ?_
  have ps := put_at (v := u) hd
  have pg := fun t (h : 79 ≠ t) => put_ne (v := u) hd h
  constructor
  case down => exact down_put hI.down hn
  case df => exact hI.df
  case size => exact (put_size a 79 u).trans hI.size
  case keep => intro t h1 h2; rw [pg t (by omega)]; exact hI.keep t h1 h2
  case s9 => intro h; rw [pg 9 (by decide)]; exact hI.s9 z15
  case gro => exact hI.gro.grown hg hdr H.b0 (fun d q => Nat.le_trans H.b0 (hbl d q))
  case low => intro h; rw [e 14 rfl] at h; exact fun d hc => (hg.block d (Nat.lt_of_lt_of_le hc hI.gro.size) (fun q => by have := hbl d q.symm; omega)).trans (hI.low h d hc)
  case f0 => intro h; rw [e 0 rfl] at h; rw [pg 73 (by decide)]; exact hI.f0 h
  case f1 => intro _ h2; simp at h2
  case f2 => intro h; rw [e 2 rfl] at h; rw [pg 75 (by decide)]; exact hI.f2 h
  case f3 => intro h; rw [e 3 rfl] at h; rw [pg 76 (by decide)]; exact hI.f3 h
  case f4 => intro h; rw [e 4 rfl] at h; rw [pg 77 (by decide)]; exact hI.f4 h
  case f5 => intro h; rw [e 5 rfl] at h; rw [pg 78 (by decide)]; exact hI.f5 h
  case f6 => intro _ _; rw [ps]; exact hru
  case f7 => intro h; rw [e 7 rfl] at h; rw [pg 80 (by decide)]; exact hI.f7 h
  case f8 => intro h; rw [e 8 rfl] at h; rw [pg 81 (by decide)]; exact hI.f8 h
  case f9 => intro h; rw [e 9 rfl] at h; rw [pg 82 (by decide)]; exact hI.f9 h
  case f10 => intro h; rw [e 10 rfl] at h; rw [pg 83 (by decide)]; exact hI.f10 h
  case f11 => intro h h2; rw [e 11 rfl] at h; rw [e 12 rfl] at h2; rw [pg 84 (by decide), ps]; obtain ⟨d, h3, h4, h5, h6x, h7, h8⟩ := hI.f11 h h2; have hne := h7 n1 hL; exact ⟨d, h3, h4, Nat.lt_of_lt_of_le h5 hg.size, (World.cell?_of_block (hg.block d h5 (fun q => hne q.symm))).trans h6x, fun _ h2 => by simp at h2, fun _ q => by (rcases hnew d q with q | q; exact hne q; omega)⟩
  case f12 => intro h; rw [e 12 rfl, z12] at h; cases h
  case f13 => intro h; rw [e 13 rfl, z13] at h; cases h
  case f14 => intro h; rw [e 14 rfl] at h; rw [z14] at h; cases h
  case f15 => intro h; rw [e 15 rfl, z15] at h; cases h
theorem st13_12 (H : H13 c) (hI : I13 c L a w) (hL : L 12 = false) (hn : ∀ k, needs ops13 12 k = true → L k = true) : wpOp Try.prog ops13 Q 12 (I13 c fun k => L k || Nat.beq k 12) a w := by
  have n6 : L 6 = true := hn 6 (by kernel_rfl)
  have n11 : L 11 = true := hn 11 (by kernel_rfl)
  have z15 : L 15 = false := hI.no hL (by kernel_rfl)
  have z13 : L 13 = false := hI.no hL (by kernel_rfl)
  have z14 : L 14 = false := hI.no z13 (by kernel_rfl)
  have hr79 := hI.f6 n6 hL
  obtain ⟨d, h3, h4, h5, h6x, h7, h8⟩ := hI.f11 n11 hL
  have hbl : ∀ d, (a.tmps.getD 79 undef).ownBlock = some d → c.w0.heap.size ≤ d := fun d q => (World.ownsRow.lt hr79 d q).1
  obtain ⟨u, w2, hap, hru, hg, hdr, hnew, hsome⟩ := app_int hr79 (ad := ⟨d, 0, none⟩) (m := 1) (cp := 1) (news := [c.x]) Nat.one_pos rfl (fun q hq => by (obtain rfl : q = 0 := by (simp at hq; omega)); rw [Addr.add_lit]; exact h6x) (by have := H.rl; simp; omega) hI.gro.size
  have hrun := x_append (T := 22) a (some 85) 79 84 22 (pos13 12) (aft13 12) w w2 rfl h3 hap
  have e : ∀ k, Nat.beq k 12 = false → (L k || Nat.beq k 12) = L k := fun k h => by rw [h, Bool.or_false]
  have hd : 85 < a.tmps.size := by rw [hI.size]; decide
  refine wpOp_val o13_12 rfl hrun ?_
  have ps := put_at (v := u) hd
  have pg := fun t (h : 85 ≠ t) => put_ne (v := u) hd h
  constructor
  case down => exact down_put hI.down hn
  case df => exact hI.df
  case size => exact (put_size a 85 u).trans hI.size
  case keep => intro t h1 h2; rw [pg t (by omega)]; exact hI.keep t h1 h2
  case s9 => intro h; rw [pg 9 (by decide)]; exact hI.s9 z15
  case gro => exact hI.gro.grown hg hdr H.b0 (fun d q => Nat.le_trans H.b0 (hbl d q))
  case low => intro h; rw [e 14 rfl] at h; exact fun d hc => (hg.block d (Nat.lt_of_lt_of_le hc hI.gro.size) (fun q => by have := hbl d q.symm; omega)).trans (hI.low h d hc)
  case f0 => intro h; rw [e 0 rfl] at h; rw [pg 73 (by decide)]; exact hI.f0 h
  case f1 => intro _ h2; rw [e 6 rfl, n6] at h2; cases h2
  case f2 => intro h; rw [e 2 rfl] at h; rw [pg 75 (by decide)]; exact hI.f2 h
  case f3 => intro h; rw [e 3 rfl] at h; rw [pg 76 (by decide)]; exact hI.f3 h
  case f4 => intro h; rw [e 4 rfl] at h; rw [pg 77 (by decide)]; exact hI.f4 h
  case f5 => intro h; rw [e 5 rfl] at h; rw [pg 78 (by decide)]; exact hI.f5 h
  case f6 => intro _ h2; simp at h2
  case f7 => intro h; rw [e 7 rfl] at h; rw [pg 80 (by decide)]; exact hI.f7 h
  case f8 => intro h; rw [e 8 rfl] at h; rw [pg 81 (by decide)]; exact hI.f8 h
  case f9 => intro h; rw [e 9 rfl] at h; rw [pg 82 (by decide)]; exact hI.f9 h
  case f10 => intro h; rw [e 10 rfl] at h; rw [pg 83 (by decide)]; exact hI.f10 h
  case f11 => intro _ h2; simp at h2
  case f12 => intro _ _; rw [ps]; exact ⟨hru, hsome⟩
  case f13 => intro h; rw [e 13 rfl, z13] at h; cases h
  case f14 => intro h; rw [e 14 rfl] at h; rw [z14] at h; cases h
  case f15 => intro h; rw [e 15 rfl, z15] at h; cases h
theorem st13_14 (H : H13 c) (hI : I13 c L a w) (hL : L 14 = false) (hn : ∀ k, needs ops13 14 k = true → L k = true) : wpOp Try.prog ops13 Q 14 (I13 c fun k => L k || Nat.beq k 14) a w := by
  have n0 : L 0 = true := hn 0 (by kernel_rfl)
  have n13 : L 13 = true := hn 13 (by kernel_rfl)
  have z15 : L 15 = false := hI.no hL (by kernel_rfl)
  have n12 : L 12 = true := hI.down 13 12 n13 (by kernel_rfl)
  have n6 : L 6 = true := hI.down 12 6 n12 (by kernel_rfl)
  obtain ⟨hr85, c85, hc85⟩ := hI.f12 n12 hL
  obtain ⟨d, h3, h4, h5, h6x, h7⟩ := hI.f13 n13 hL
  have hS := H.S.low (hI.low hL)
  have hbl : ∀ d, c.V9.ownBlock = some d → c.base ≤ d := fun d q => (World.ownsRow.lt H.S.own d q).1
  obtain ⟨u, w2, hap, hru, hg, hdr, hnew⟩ := app_row hS.own (d := d) (v := a.tmps.getD 85 undef) h6x (RowIn.one hr85) (by have := H.vl; omega) (Nat.le_trans H.b0 hI.gro.size)
  have hrun := x_append (T := 38) a (some 87) 73 86 38 (pos13 14) (aft13 14) w w2 (hI.f0 n0) h3 hap
  have e : ∀ k, Nat.beq k 14 = false → (L k || Nat.beq k 14) = L k := fun k h => by rw [h, Bool.or_false]
  have hd : 87 < a.tmps.size := by rw [hI.size]; decide
  refine wpOp_val o13_14 rfl hrun ?_
  have ps := put_at (v := u) hd
  have pg := fun t (h : 87 ≠ t) => put_ne (v := u) hd h
  constructor
  case down => exact down_put hI.down hn
  case df => exact hI.df
  case size => exact (put_size a 87 u).trans hI.size
  case keep => intro t h1 h2; rw [pg t (by omega)]; exact hI.keep t h1 h2
  case s9 => intro h; rw [pg 9 (by decide)]; exact hI.s9 z15
  case gro => exact hI.gro.grown hg hdr H.b0 hbl
  case low => intro h; simp at h
  case f0 => intro h; rw [e 0 rfl] at h; rw [pg 73 (by decide)]; exact hI.f0 h
  case f1 => intro _ h2; rw [e 6 rfl, n6] at h2; cases h2
  case f2 => intro h; rw [e 2 rfl] at h; rw [pg 75 (by decide)]; exact hI.f2 h
  case f3 => intro h; rw [e 3 rfl] at h; rw [pg 76 (by decide)]; exact hI.f3 h
  case f4 => intro h; rw [e 4 rfl] at h; rw [pg 77 (by decide)]; exact hI.f4 h
  case f5 => intro h; rw [e 5 rfl] at h; rw [pg 78 (by decide)]; exact hI.f5 h
  case f6 => intro _ h2; rw [e 12 rfl, n12] at h2; cases h2
  case f7 => intro h; rw [e 7 rfl] at h; rw [pg 80 (by decide)]; exact hI.f7 h
  case f8 => intro h; rw [e 8 rfl] at h; rw [pg 81 (by decide)]; exact hI.f8 h
  case f9 => intro h; rw [e 9 rfl] at h; rw [pg 82 (by decide)]; exact hI.f9 h
  case f10 => intro h; rw [e 10 rfl] at h; rw [pg 83 (by decide)]; exact hI.f10 h
  case f11 => intro _ h2; rw [e 12 rfl, n12] at h2; cases h2
  case f12 => intro _ h2; simp at h2
  case f13 => intro _ h2; simp at h2
  case f14 => intro _; rw [ps]; exact ⟨_, hS.push hr85 hc85 H.b0 H.S hru hg hnew⟩
  case f15 => intro h; rw [e 15 rfl, z15] at h; cases h
theorem st13_15 (H : H13 c) (hI : I13 c L a w) (hL : L 15 = false) (hn : ∀ k, needs ops13 15 k = true → L k = true) : wpOp Try.prog ops13 Q 15 (I13 c fun k => L k || Nat.beq k 15) a w := by
  have n14 : L 14 = true := hn 14 (by kernel_rfl)
  obtain ⟨u, hu⟩ : ∃ u, u = a.tmps.getD 87 undef := ⟨_, rfl⟩
  have hrun := x_assign a (some 9) 87 38 (pos13 15) (aft13 15) w
  rw [← hu] at hrun
  have e : ∀ k, Nat.beq k 15 = false → (L k || Nat.beq k 15) = L k := fun k h => by rw [h, Bool.or_false]
  have hd : 9 < a.tmps.size := by rw [hI.size]; decide
  refine wpOp_val o13_15 rfl hrun ?_
  have ps := put_at (v := u) hd
  have pg := fun t (h : 9 ≠ t) => put_ne (v := u) hd h
  constructor
  case down => exact down_put hI.down hn
  case df => exact hI.df
  case size => exact (put_size a 9 u).trans hI.size
  case keep => intro t h1 h2; rw [pg t (by omega)]; exact hI.keep t h1 h2
  case s9 => intro h; simp at h
  case gro => exact hI.gro
  case low => intro h; rw [e 14 rfl, n14] at h; cases h
  case f0 => intro h; rw [e 0 rfl] at h; rw [pg 73 (by decide)]; exact hI.f0 h
  case f1 => intro h h2; rw [e 1 rfl] at h; rw [e 6 rfl] at h2; rw [pg 74 (by decide)]; exact hI.f1 h h2
  case f2 => intro h; rw [e 2 rfl] at h; rw [pg 75 (by decide)]; exact hI.f2 h
  case f3 => intro h; rw [e 3 rfl] at h; rw [pg 76 (by decide)]; exact hI.f3 h
  case f4 => intro h; rw [e 4 rfl] at h; rw [pg 77 (by decide)]; exact hI.f4 h
  case f5 => intro h; rw [e 5 rfl] at h; rw [pg 78 (by decide)]; exact hI.f5 h
  case f6 => intro h h2; rw [e 6 rfl] at h; rw [e 12 rfl] at h2; rw [pg 79 (by decide)]; exact hI.f6 h h2
  case f7 => intro h; rw [e 7 rfl] at h; rw [pg 80 (by decide)]; exact hI.f7 h
  case f8 => intro h; rw [e 8 rfl] at h; rw [pg 81 (by decide)]; exact hI.f8 h
  case f9 => intro h; rw [e 9 rfl] at h; rw [pg 82 (by decide)]; exact hI.f9 h
  case f10 => intro h; rw [e 10 rfl] at h; rw [pg 83 (by decide)]; exact hI.f10 h
  case f11 => intro h h2; rw [e 11 rfl] at h; rw [e 12 rfl] at h2; rw [pg 84 (by decide), pg 74 (by decide), pg 79 (by decide)]; obtain ⟨d, h3, h4, h5, h6, h7, h8⟩ := hI.f11 h h2; exact ⟨d, h3, h4, h5, h6, fun h h2 => h7 (by rw [e 1 rfl] at h; exact h) (by rw [e 6 rfl] at h2; exact h2), fun h => h8 (by rw [e 6 rfl] at h; exact h)⟩
  case f12 => intro h h2; rw [e 12 rfl] at h; rw [e 14 rfl] at h2; rw [pg 85 (by decide)]; obtain ⟨h3, h4⟩ := hI.f12 h h2; exact ⟨h3, h4⟩
  case f13 => intro h h2; rw [e 13 rfl] at h; rw [e 14 rfl] at h2; rw [pg 86 (by decide), pg 85 (by decide)]; obtain ⟨d, h3, h4, h5, h6, h7⟩ := hI.f13 h h2; exact ⟨d, h3, h4, h5, h6, h7⟩
  case f14 => intro h; rw [e 14 rfl] at h; rw [pg 87 (by decide)]; exact hI.f14 h
  case f15 => intro _; rw [ps, pg 87 (by decide)]; exact hu
end
/-- The region: one more row. -/
theorem region13 {c : C13} (H : H13 c) (hsz : c.tm.size = 106) (h9 : c.tm.getD 9 undef = c.V9) {id : Nat} {Q : Exit → Act → World → Prop}
    (hQ : ∀ (a : Act) (w : World) (V v : Value), a.defers = c.df → a.tmps.size = 106 → (∀ t, t ≠ 9 → (t < 73 ∨ 87 < t) → a.tmps.getD t undef = c.tm.getD t undef) → a.tmps.getD 9 undef = V → RowSt w c.base V (c.vs ++ [v]) (c.yss ++ [c.r ++ [c.x]]) → Gro c.base c.w0 w → Q .normal a w) :
    (Code.region id ops13 true).wp Try.prog Q ⟨c.tm, c.df⟩ c.w0 := by
  refine wp_region_inv order (I13 c) low13 ?_ ?_ (fun L L' a w e h => h.ext e) ?_
  · exact ⟨fun k q h => (by cases h), rfl, hsz, fun _ _ _ => rfl, fun _ => h9, ⟨rfl, rfl, ⟨rfl, Nat.le_succ _⟩, Nat.le_refl _, fun _ _ => rfl⟩, fun _ _ _ => rfl, fun h => (by cases h), fun h => (by cases h), fun h => (by cases h), fun h => (by cases h), fun h => (by cases h), fun h => (by cases h), fun h => (by cases h), fun h => (by cases h), fun h => (by cases h), fun h => (by cases h), fun h => (by cases h), fun h => (by cases h), fun h => (by cases h), fun h => (by cases h), fun h => (by cases h), fun h => (by cases h)⟩
  · intro i o L a w ho hI hL hn
    have hi : i < 16 := by rw [← s13]; exact (Array.getElem?_eq_some_iff.1 ho).1
    obtain rfl | rfl | rfl | rfl | rfl | rfl | rfl | rfl | rfl | rfl | rfl | rfl | rfl | rfl | rfl | rfl : i = 0 ∨ i = 1 ∨ i = 2 ∨ i = 3 ∨ i = 4 ∨ i = 5 ∨ i = 6 ∨ i = 7 ∨ i = 8 ∨ i = 9 ∨ i = 10 ∨ i = 11 ∨ i = 12 ∨ i = 13 ∨ i = 14 ∨ i = 15 := by omega
    · exact st13_0 H hI hL hn
    · exact st13_1 H hI hL hn
    · exact st13_2 H hI hL hn
    · exact st13_3 H hI hL hn
    · exact st13_4 H hI hL hn
    · exact st13_5 H hI hL hn
    · exact st13_6 H hI hL hn
    · exact st13_7 H hI hL hn
    · exact st13_8 H hI hL hn
    · exact st13_9 H hI hL hn
    · exact st13_10 H hI hL hn
    · exact st13_11 H hI hL hn
    · exact st13_12 H hI hL hn
    · exact st13_13 H hI hL hn
    · exact st13_14 H hI hL hn
    · exact st13_15 H hI hL hn
  · intro L a w hall hI
    rw [s13] at hall
    obtain ⟨v, hv⟩ := hI.f14 (hall 14 (by decide))
    refine hQ a w _ v hI.df hI.size hI.keep rfl ?_ hI.gro
    rw [hI.f15 (hall 15 (by decide))]
    exact hv
theorem Gro.drew {base : Nat} {w w1 : World} (h : Gro base w w1) (n : Nat) : Gro base w (w1.drewN n) := ⟨h.os, h.tape, ⟨h.out.1, Nat.le_trans h.out.2 (Nat.le_add_right _ _)⟩, h.size, h.same⟩
theorem RowSt.drew {w : World} {base : Nat} {V : Value} {vs : List Value} {xss : List (List Int)} (h : RowSt w base V vs xss) (n : Nat) : RowSt (w.drewN n) base V vs xss := h.low fun _ _ => rfl
/-- The first row of all. -/
theorem first_rows (w : World) : RowSt ((w.alloc (.cells #[.int .i64 0] 3)).alloc (.cells #[.slice (some ⟨w.heap.size, 0, none⟩) 1 1] 22)) w.heap.size (.slice (some ⟨w.heap.size + 1, 0, none⟩) 1 1) [.slice (some ⟨w.heap.size, 0, none⟩) 1 1] [[0]] := by
  have hs : (w.alloc (.cells #[.int .i64 0] 3)).heap.size = w.heap.size + 1 := World.size_alloc _ _
  have h1 := heap_alloc_new w (.cells #[.int .i64 0] 3)
  have h2 := heap_alloc_new (w.alloc (.cells #[.int .i64 0] 3)) (.cells #[.slice (some ⟨w.heap.size, 0, none⟩) 1 1] 22)
  have h3 := heap_alloc_old (w.alloc (.cells #[.int .i64 0] 3)) (.cells #[.slice (some ⟨w.heap.size, 0, none⟩) 1 1] 22) (r := w.heap.size) (by omega)
  rw [hs] at h2
  refine ⟨⟨rfl, .inr ⟨_, 1, _, rfl, Nat.le_succ _, h2, Nat.le_refl _, by decide, rfl, rfl⟩⟩, ⟨[0], [], rfl, ⟨rfl, .inr ⟨_, 1, _, rfl, Nat.le_refl _, h3.trans h1, Nat.le_refl _, by decide, rfl, rfl⟩⟩, rfl⟩, fun v hv => ?_, List.pairwise_singleton _ _, fun v hv => ?_⟩
  · rw [List.mem_singleton.1 hv]; exact ⟨_, rfl⟩
  · rw [List.mem_singleton.1 hv]
    intro q
    have q : some w.heap.size = some (w.heap.size + 1) := q
    have := Option.some.inj q
    omega
/-- An outer row as a slice. -/
theorem RowSt.slice {w : World} {base : Nat} {V : Value} {vs : List Value} {xss : List (List Int)} (h : RowSt w base V vs xss) : ∃ A c, V = .slice A xss.length c := by
  have hl := Go.Pv.RowsIn.length h.rows
  rcases h.own.2 with ⟨h, h0⟩ | ⟨g, cap, cur, h, -⟩
  · exact ⟨none, 0, by rw [h, ← hl, h0]⟩
  · exact ⟨_, _, by rw [← hl]; exact h⟩
/-- A row that lies in it. -/
theorem RowSt.at {w : World} {base : Nat} {V : Value} {vs : List Value} {xss : List (List Int)} (h : RowSt w base V vs xss) {A : Option Addr} {n c k : Nat} (hV : V = .slice A n c) (hk : k < xss.length) :
    ∃ g gk ck, A = some ⟨g, 0, none⟩ ∧ base ≤ g ∧ g < w.heap.size ∧ base ≤ gk ∧ gk < w.heap.size ∧ gk ≠ g ∧ w.cell? ⟨g, k, none⟩ = some (.slice (some ⟨gk, 0, none⟩) (xss.getD k []).length ck) ∧ vs[k]? = some (.slice (some ⟨gk, 0, none⟩) (xss.getD k []).length ck) ∧
      ∀ q, q < (xss.getD k []).length → w.cell? ⟨gk, q, none⟩ = some (.int .i64 ((xss.getD k []).getD q 0)) := by
  have hl := Go.Pv.RowsIn.length h.rows
  obtain ⟨g, cap, cur, e, hb, hg, hc, hm, hcs, htk⟩ : ∃ g cap cur, V = .slice (some ⟨g, 0, none⟩) vs.length cap ∧ base ≤ g ∧ w.heap[g]? = some (.cells cur 22 (0, 0)) ∧ vs.length ≤ cap ∧ cap ≤ maxLen ∧ cur.size = cap * 1 ∧ cur.toList.take (vs.length * 1) = vs := by
    rcases h.own.2 with ⟨-, h0⟩ | h
    · omega
    · exact h
  rw [e] at hV
  cases hV
  have hkv : k < vs.length := by omega
  have hv : vs[k]? = some vs[k] := List.getElem?_eq_getElem hkv
  obtain ⟨xs, hx, hr⟩ := Go.Pv.RowsIn.get h.rows hv
  have hxk : xss.getD k [] = xs := by rw [List.getD_eq_getElem?_getD, hx]; rfl
  obtain ⟨gk, hgk⟩ := h.blk _ (List.mem_of_getElem? hv)
  have hlt := World.ownsRow.lt hr gk hgk
  have hne : gk ≠ g := fun q => h.outer _ (List.mem_of_getElem? hv) (by rw [hgk, e, q]; rfl)
  have hcell := h.own.cells (g := g) (by rw [e]; rfl) k _ hv
  rw [Addr.add_lit, Nat.zero_add] at hcell
  obtain ⟨ck, hvk⟩ : ∃ ck, vs[k] = .slice (some ⟨gk, 0, none⟩) xs.length ck := by
    rcases hr.2 with ⟨q, -⟩ | ⟨g', ck, cur', q, -⟩
    · rw [q] at hgk; cases hgk
    · rw [q] at hgk; cases hgk
      exact ⟨ck, q⟩
  rw [hxk]
  refine ⟨g, gk, ck, rfl, hb, (h.own.lt g (by rw [e]; rfl)).2, hlt.1, hlt.2, hne, by rw [hcell, hvk], by rw [hv, hvk], fun q hq => ?_⟩
  have := World.ownsRow.cells hr hgk q (.int .i64 (xs.getD q 0)) (by rw [List.getElem?_map, List.getD_eq_getElem?_getD, List.getElem?_eq_getElem hq]; rfl)
  rwa [Addr.add_lit, Nat.zero_add] at this

theorem set_chain (f : Nat → Value) : ∀ (l : List Nat) (t arr : Array Value), t.size = arr.size → (∀ i, i ∉ l → t.getD i undef = arr.getD i undef) → (∀ i ∈ l, i < t.size) → (∀ i, f i = t.getD i undef) → t = l.foldl (fun r i => r.setIfInBounds i (f i)) arr
  | [], t, arr, hs, h, _, _ => by
    apply Array.ext hs
    intro i h1 h2
    have := h i (by simp)
    rw [Array.getD_eq_getD_getElem?, Array.getD_eq_getD_getElem?, Array.getElem?_eq_getElem h1, Array.getElem?_eq_getElem h2] at this
    exact this
  | x :: l, t, arr, hs, h, hl, hf => by
    rw [List.foldl_cons]
    refine set_chain f l t _ (by rw [Array.size_setIfInBounds]; exact hs) (fun i hi => ?_) (fun i hi => hl i (List.mem_cons_of_mem _ hi)) hf
    have hx : x < arr.size := by rw [← hs]; exact hl x List.mem_cons_self
    rw [getD_set _ _ _ _ hx]
    by_cases hxi : x = i
    · rw [if_pos hxi, hf, hxi]
    · rw [if_neg hxi]
      exact h i (fun q => by rcases List.mem_cons.1 q with q | q; exact hxi q.symm; exact hi q)
/-- The region: one more row; the frame written out. -/
theorem region13' {c : C13} (H : H13 c) (hsz : c.tm.size = 106) (h9 : c.tm.getD 9 undef = c.V9) {id : Nat} {ops : Array Oper} (hops : ops = ops13) {Q : Exit → Act → World → Prop}
    (hQ : ∀ (U : Nat → Value) (w : World) (V v : Value), RowSt w c.base V (c.vs ++ [v]) (c.yss ++ [c.r ++ [c.x]]) → Gro c.base c.w0 w →
      Q .normal ⟨((((((((((((((((c.tm.setIfInBounds 9 V).setIfInBounds 73 (U 73)).setIfInBounds 74 (U 74)).setIfInBounds 75 (U 75)).setIfInBounds 76 (U 76)).setIfInBounds 77 (U 77)).setIfInBounds 78 (U 78)).setIfInBounds 79 (U 79)).setIfInBounds 80 (U 80)).setIfInBounds 81 (U 81)).setIfInBounds 82 (U 82)).setIfInBounds 83 (U 83)).setIfInBounds 84 (U 84)).setIfInBounds 85 (U 85)).setIfInBounds 86 (U 86)).setIfInBounds 87 (U 87)), c.df⟩ w) :
    (Code.region id ops true).wp Try.prog Q ⟨c.tm, c.df⟩ c.w0 := by
  subst hops
  refine region13 H hsz h9 fun a w V v e1 e2 e3 e4 h1 h2 => ?_
  have := set_chain (fun t => a.tmps.getD t undef) [9, 73, 74, 75, 76, 77, 78, 79, 80, 81, 82, 83, 84, 85, 86, 87] a.tmps c.tm (e2.trans hsz.symm) (fun i hi => by
    simp only [List.mem_cons, List.not_mem_nil, or_false, not_or] at hi
    exact e3 i (by omega) (by omega)) (fun i hi => by
    simp only [List.mem_cons, List.not_mem_nil, or_false] at hi
    omega) (fun _ => rfl)
  have hq := hQ (fun t => a.tmps.getD t undef) w V v h1 h2
  simp only [List.foldl] at this
  rw [e4] at this
  rw [← this, ← e1] at hq
  exact hq
theorem ext_no {bt : List Int} {e : Int} {r : List Int} {j : Nat} (h : extC bt e r j = false) : extTo bt e r (j + 1) = extTo bt e r j := by rw [extTo, h, cond_false, List.append_nil]
theorem ext_yes {bt : List Int} {e : Int} {r : List Int} {j : Nat} (h : extC bt e r j = true) : extTo bt e r (j + 1) = extTo bt e r j ++ [r ++ [bt.getD j 0]] := by rw [extTo, h, cond_true]

theorem RowsIn_upd {w w' : World} {base e : Nat} {v' : Value} {xs' : List Int} (hv : Go.Pv.RowIn w' base e v' xs') : ∀ {vs : List Value} {xss : List (List Int)} (k : Nat), Go.Pv.RowsIn w base e vs xss → (∀ i v xs, i ≠ k → vs[i]? = some v → Go.Pv.RowIn w base e v xs → Go.Pv.RowIn w' base e v xs) → Go.Pv.RowsIn w' base e (vs.set k v') (xss.set k xs')
  | [], xss, k, h, _ => by have h : xss = [] := h; subst h; rfl
  | u :: vs, xss, 0, ⟨ys, r, e1, h1, h⟩, hk => by
    subst e1
    refine ⟨xs', r, rfl, hv, ?_⟩
    have := RowsIn_upd (v' := v') (xs' := xs') hv (vs.length + r.length) h (fun i v xs hi hiv => hk (i + 1) v xs (by omega) (by simpa using hiv))
    rwa [List.set_eq_of_length_le (by omega), List.set_eq_of_length_le (by omega)] at this
  | u :: vs, xss, k + 1, ⟨ys, r, e1, h1, h⟩, hk => by
    subst e1
    exact ⟨ys, r.set k xs', rfl, hk 0 u ys (by omega) rfl h1, RowsIn_upd hv k h fun i v xs hi hiv => hk (i + 1) v xs (by omega) (by simpa using hiv)⟩
theorem pair_set {R : Value → Value → Prop} (sym : ∀ a b, R a b → R b a) : ∀ {l : List Value} (k : Nat) {v : Value}, l.Pairwise R → (∀ i u, i ≠ k → l[i]? = some u → R u v) → (l.set k v).Pairwise R
  | [], _, _, _, _ => .nil
  | x :: l, 0, v, h, hv => by
    obtain ⟨h1, h2⟩ := List.pairwise_cons.1 h
    exact List.pairwise_cons.2 ⟨fun y hy => by
      obtain ⟨i, hi, e⟩ := List.mem_iff_getElem.1 hy
      exact sym _ _ (hv (i + 1) y (by omega) (by simp [List.getElem?_eq_getElem hi, e])), h2⟩
  | x :: l, k + 1, v, h, hv => by
    obtain ⟨h1, h2⟩ := List.pairwise_cons.1 h
    rw [List.set_cons_succ]
    refine List.pairwise_cons.2 ⟨fun y hy => ?_, pair_set sym k h2 fun i u hi hu => hv (i + 1) u (by omega) (by simpa using hu)⟩
    rcases List.mem_or_eq_of_mem_set hy with q | q
    · exact h1 y q
    · rw [q]; exact hv 0 x (by omega) rfl
theorem ownsRow_same {w w' : World} {base e size : Nat} {v : Value} {n : Nat} {xs : List Value} (h : w.ownsRow base e size v n xs) (hl : ∀ d, v.ownBlock = some d → w'.heap[d]? = w.heap[d]?) : w'.ownsRow base e size v n xs := by
  refine ⟨h.1, ?_⟩
  rcases h.2 with h0 | ⟨g, cap, cur, rfl, h1, h2, h3⟩
  · exact .inl h0
  · exact .inr ⟨g, cap, cur, rfl, h1, (hl g rfl).trans h2, h3⟩
set_option maxHeartbeats 1000000 in
/-- A row of an outer row is ended. -/
theorem RowSt.ended {w : World} {base c k : Nat} {A : Option Addr} {vs : List Value} {xss : List (List Int)} (S : RowSt w base (.slice A xss.length c) vs xss) (hk : k < xss.length) (e : Int) (hb : base ≤ w.heap.size) (hlen : (xss.getD k []).length ≤ 10000) :
    ∃ g gq ck, A = some ⟨g, 0, none⟩ ∧ g < w.heap.size ∧ w.cell? ⟨g, k, none⟩ = some (.slice (some ⟨gq, 0, none⟩) (xss.getD k []).length ck) ∧
      ∃ B n' c' w2, (Builtin.append_ #[22, 22] 22 #[.slice (some ⟨gq, 0, none⟩) (xss.getD k []).length ck, .slice (some ⟨w.heap.size, 0, none⟩) 1 1]).run Try.prog (w.alloc (.cells #[.int .i64 e] 3)) = .ok (.slice B n' c') w2 ∧
        (∃ u, w2.cell? ⟨g, k, none⟩ = some u) ∧ w2.frozen? ⟨g, k, none⟩ = false ∧
        RowSt (w2.setCell ⟨g, k, none⟩ (.slice B n' c')) base (.slice (some ⟨g, 0, none⟩) xss.length c) (vs.set k (.slice B n' c')) (xss.set k (xss.getD k [] ++ [e])) ∧ Gro base w (w2.setCell ⟨g, k, none⟩ (.slice B n' c')) := by
  obtain ⟨g, gq, ck, rfl, h1, h2, h3, h4, h5, lr, hv, ll⟩ := S.at rfl hk
  have hl := Go.Pv.RowsIn.length S.rows
  have hkv : k < vs.length := by omega
  obtain ⟨xs, hx, hr⟩ := Go.Pv.RowsIn.get S.rows hv
  have hxk : xss.getD k [] = xs := by rw [List.getD_eq_getElem?_getD, hx]; rfl
  subst hxk
  have hsz : (w.alloc (.cells #[.int .i64 e] 3)).heap.size = w.heap.size + 1 := World.size_alloc _ _
  have hcn := cell_alloc_new w (.int .i64 e) 3
  obtain ⟨v', w2, hap, hru, hg, hdr, hnew, g', hg'⟩ := app_int (RowIn.alloc hr (.cells #[.int .i64 e] 3)) (ad := ⟨w.heap.size, 0, none⟩) (m := 1) (cp := 1) (news := [e]) Nat.one_pos rfl (fun q hq => by (obtain rfl : q = 0 := by (simp at hq; omega)); rw [Addr.add_lit]; exact hcn) (by omega) (by omega)
  obtain ⟨B, n', c', rfl⟩ := RowIn.slice hru
  have hnew : g' = gq ∨ w.heap.size + 1 ≤ g' := by
    rcases hnew g' hg' with q | q
    · exact .inl (Option.some.inj q).symm
    · rw [hsz] at q; exact .inr q
  have hgg : g' ≠ g := by omega
  obtain ⟨cap, cur, e2, hwg, hc, hm, hcs, htk⟩ : ∃ cap cur, c = cap ∧ w.heap[g]? = some (.cells cur 22 (0, 0)) ∧ vs.length ≤ cap ∧ cap ≤ maxLen ∧ cur.size = cap * 1 ∧ cur.toList.take (vs.length * 1) = vs := by
    rcases S.own.2 with ⟨q, -⟩ | ⟨g2, cap, cur, q, -, q2, q3, q4, q5, q6⟩
    · cases q
    · have q := Value.slice.inj q
      have q1 : g = g2 := by have := congrArg Addr.block (Option.some.inj q.1); exact this
      rw [← q1] at q2
      exact ⟨cap, cur, q.2.2, q2, q3, q4, q5, q6⟩
  subst e2
  have hgr : ∀ b, b < w.heap.size → b ≠ gq → w2.heap[b]? = w.heap[b]? := fun b hb' hne => (hg.block b (by omega) (fun q => hne (Option.some.inj q))).trans (heap_alloc_old w _ hb')
  have hap2 : ∀ (i : Nat) (u : Value), i ≠ k → vs[i]? = some u → ∀ d, u.ownBlock = some d → d ≠ gq := by
    intro i u hi hu d hd q
    subst q
    obtain ⟨hi1, hi2⟩ := List.getElem?_eq_some_iff.1 hu
    obtain ⟨hk1, hk2⟩ := List.getElem?_eq_some_iff.1 hv
    have hp := List.pairwise_iff_getElem.1 S.apart
    rcases Nat.lt_or_gt_of_ne hi with h | h
    · exact hp i k hi1 hk1 h (by rw [hi2, hk2, hd]; rfl)
    · exact hp k i hk1 hi1 h (by rw [hi2, hk2, hd]; rfl)
  have hw2 : w2.heap[g]? = some (.cells cur 22 (0, 0)) := (hgr g h2 (Ne.symm h5)).trans hwg
  have hkc : k < cur.size := by omega
  refine ⟨g, gq, ck, rfl, h2, lr, B, n', c', w2, hap, ⟨cur[k], by simp [World.cell?, hw2, hkc]⟩, by simp [World.frozen?, hw2], ⟨?_, ?_, ?_, ?_, ?_⟩, ?_⟩
  · refine ⟨by simp, .inr ⟨g, c, cur.setIfInBounds k (.slice B n' c'), by rw [List.length_set, hl], h1, heap_setCell_same w2 g k cur 22 _ hw2, by rw [List.length_set]; exact hc, hm, by rw [Array.size_setIfInBounds]; exact hcs, ?_⟩⟩
    rw [List.length_set, Array.toList_setIfInBounds, List.take_set, htk]
  · refine RowsIn_upd ?_ k S.rows fun i v ys hi hiv hy => ?_
    · exact ownsRow_same hru fun d hd => heap_setCell_other _ _ _ _ (fun q => hgg ((Option.some.inj (hg'.symm.trans hd)).trans q))
    · refine ownsRow_same hy fun d hd => ?_
      have hne := hap2 i v hi hiv d hd
      have hlt := (World.ownsRow.lt hy d hd).2
      exact (heap_setCell_other _ _ _ _ (fun q => S.outer v (List.mem_of_getElem? hiv) (by rw [hd, q]; rfl))).trans (hgr d hlt hne)
  · intro v hv'
    rcases List.mem_or_eq_of_mem_set hv' with q | q
    · exact S.blk v q
    · exact ⟨g', by rw [q]; exact hg'⟩
  · refine pair_set (fun a b h => h.symm) k S.apart fun i u hi hu q => ?_
    have q : u.ownBlock = some g' := q.trans hg'
    have h6 := hap2 i u hi hu g' q
    obtain ⟨ys, -, hy⟩ := Go.Pv.RowsIn.get S.rows hu
    have h7 := (World.ownsRow.lt hy g' q).2
    omega
  · intro v hv'
    rcases List.mem_or_eq_of_mem_set hv' with q | q
    · exact S.outer v q
    · rw [q, hg']; intro q2; exact hgg (Option.some.inj q2)
  · refine ⟨hg.os, hg.tape, ⟨hg.output, hdr⟩, by rw [World.size_setCell]; have := hg.size; omega, fun d hd => ?_⟩
    exact (heap_setCell_other _ _ _ _ (fun q => by have q : d = g := q; omega)).trans (hgr d (by omega) (by omega))
theorem rowsG_le {bt : List Int} {e : Int} : ∀ {n : Nat} {out r : List (List Int)}, rowsG bt e n out = some r → out.length ≤ 100000 := fun h => rowsG_len h
set_option maxHeartbeats 4000000 in
theorem rows64 {w : World} {vb : Value} {bt : List Int} {cnt e : Int} {fin : List (List Int)} (hb : RdRow w.heap.size w vb bt) (hbl : bt.length ≤ 1000) (hc : cnt ≤ 1000) (hG : rowsG bt e cnt.toNat [[0]] = some fin) :
    Calls Try.prog 64 #[vb, .int .i64 cnt, .int .i64 e] w fun ev w' => ∃ V vs, ev = .returned V ∧ Gro w.heap.size w w' ∧ RowSt w' w.heap.size V vs (fin.map fun r => r ++ [e]) := by
  have HG : Aside (rowsG bt e cnt.toNat [[0]] = some fin) := hG
  have H0' := hb
  obtain ⟨A, cap, rfl, hA⟩ := hb
  have H0 : Aside (RdRow w.heap.size w (.slice A bt.length cap) bt) := H0'
  clear H0' hA hG
  go_enter Try.func64, Try.ntmps64
  go_wp2
  go_loopg [7, 8] (cnt.toNat) (fun g v7 v8 wr => ∃ (i : Nat) (vs : List Value) (xss : List (List Int)), v8 = .int .i64 i ∧ i ≤ cnt.toNat ∧ cnt.toNat - i ≤ g ∧ Aside (RowSt wr w.heap.size v7 vs xss) ∧ Aside (rowsG bt e (cnt.toNat - i) xss = some fin) ∧ Hid (∀ r ∈ xss, r.length = i + 1) ∧ Aside (Gro w.heap.size w wr))
  case atStart =>
    refine ⟨0, _, [[0]], rfl, Nat.zero_le _, Nat.le_refl _, first_rows w, HG, fun r hr => by rw [List.mem_singleton.1 hr]; rfl, ?_⟩
    exact ((Gro.refl w.heap.size w).alloc (Nat.le_refl _) _).alloc (Nat.le_refl _) _
  case round =>
    rename World => w1
    obtain ⟨i, vs, xss, rfl, hi, hg, S, G, hlen, D⟩ := hrel
    obtain ⟨A7, c7, rfl⟩ := S.out.slice
    have hX := rowsG_le G.out
    by_cases hlt : (i : Int) < cnt
    · have hin : i < cnt.toNat := by omega
      go_wp2
      go_loopg [9, 10] (xss.length) (fun g v9 v10 wr2 => ∃ (k : Nat) (vs9 : List Value), v10 = .int .i64 k ∧ k ≤ xss.length ∧ xss.length - k ≤ g ∧ Aside (RowSt wr2 w1.heap.size v9 vs9 (stepTo bt e xss k)) ∧ Aside (Gro w1.heap.size w1 wr2))
      case atStart => exact ⟨0, [], rfl, Nat.zero_le _, Nat.le_refl _, ⟨World.ownsRow_nil _ _ _ _, rfl, fun v hv => (by cases hv), .nil, fun v hv => (by cases hv)⟩, Gro.refl _ _⟩
      case round =>
        rename World => w2
        obtain ⟨k, vs9, rfl, hk, hg2, S9, D2⟩ := hrel
        by_cases hltk : (k : Int) < (xss.length : Int)
        · have hkn : k < xss.length := by omega
          go_wp2
          go_loopg [9, 11] (bt.length) (fun g v9 v11 wr3 => ∃ (j : Nat) (vs9 : List Value), v11 = .int .i64 j ∧ j ≤ bt.length ∧ bt.length - j ≤ g ∧ Aside (RowSt wr3 w1.heap.size v9 vs9 (stepTo bt e xss k ++ extTo bt e (xss.getD k []) j)) ∧ Aside (Gro w1.heap.size w1 wr3))
          case atStart => exact ⟨0, vs9, rfl, Nat.zero_le _, Nat.le_refl _, by rw [extTo, List.append_nil]; exact S9.out, D2.out⟩
          case round =>
            rename World => w3
            obtain ⟨j, vs10, rfl, hj, hg3, S10, D3⟩ := hrel
            by_cases hltj : (j : Int) < (bt.length : Int)
            · have hjn : j < bt.length := by omega
              obtain ⟨g, gq, ck, rfl, h1, h2, h3, h4, h5, lr, hv, ll⟩ := S.out.at rfl hkn
              obtain ⟨A', cap', e1, hA⟩ := H0.out
              cases e1
              obtain ⟨b, o, rfl, h6, lb⟩ := hA (by omega)
              have hri : (xss.getD k []).length = i + 1 := hlen.out _ (by rw [List.getD_eq_getElem?_getD, List.getElem?_eq_getElem hkn]; exact List.getElem_mem hkn)
              obtain ⟨r, hr⟩ : ∃ r, r = xss.getD k [] := ⟨_, rfl⟩
              rw [← hr] at lr ll hri hv
              rw [hri] at lr ll hv
              have hsz := D.out.size
              have la := lb j hjn
              have ly := ll i (by omega)
              rw [← World.cell?_of_block (w' := w3) ((D3.out.same b (by omega)).trans (D.out.same b h6))] at la
              rw [← World.cell?_of_block (w' := w3) (D3.out.same gq h4)] at ly
              rw [← World.cell?_of_block (w' := w3) (D3.out.same g h2)] at lr
              obtain ⟨x, hx⟩ : ∃ x, x = bt.getD j 0 := ⟨_, rfl⟩
              obtain ⟨y, hy⟩ : ∃ y, y = r.getD i 0 := ⟨_, rfl⟩
              rw [← hx] at la
              rw [← hy] at ly
              have wi : IntKind.i64.wrap (i : Int) = (i : Int) := by rw [IntKind.wrap_i64]; omega
              have bi : (i : Int) < ((i + 1 : Nat) : Int) := by omega
              have bi2 : (i : Int) < (i : Int) + 1 := by omega
              have BK : Aside (r = xss.getD k [] ∧ x = bt.getD j 0 ∧ y = r.getD i 0) := ⟨hr, hx, hy⟩
              have LL : Aside (∀ q, q < r.length → w1.cell? ⟨gq, q, none⟩ = some (.int .i64 (r.getD q 0))) := by rw [hri]; exact ll
              clear hr hx hy ll hv
              by_cases c1 : y < x
              · have d1 : decide (x > y) = true := decide_eq_true c1
                by_cases c2 : x < e
                · have d2 : decide (x < e) = true := decide_eq_true c2
                  by_cases hj0 : j = 0
                  · subst hj0
                    rw [Nat.add_zero] at la
                    clear lb
                    go_wp2_with fail
                    go_quiet (fail)
                    go_wp2
                    obtain ⟨q1, q2, q3⟩ := BK.out
                    have S11 := S10.out.drew nq
                    have D11 := D3.out.drew nq
                    refine region13' (c := ⟨_, _, w3.drewN nq, .slice (some ⟨g, 0, none⟩) xss.length c7, _, w1.heap.size, g, k, c7, xss.length, gq, ck, b, o, bt.length, cap, 0, r, x, vs10, _⟩) ⟨rfl, rfl, rfl, rfl, rfl, hkn, hjn, h2, h4, Nat.lt_of_lt_of_le h6 D.out.size, by show (w3.drewN nq).cell? _ = _; rw [hri]; exact lr, fun q hq => ?ck, la, D11.size, by show 0 < r.length; omega, by show r.length ≤ 10000; omega, ?vl, S11⟩ rfl rfl (by kernel_rfl) ?go
                    case ck => show (w3.drewN nq).cell? _ = _; rw [show (w3.drewN nq).cell? ⟨gq, q, none⟩ = w3.cell? ⟨gq, q, none⟩ from rfl, World.cell?_of_block (D3.out.same gq h4)]; exact LL.out q hq
                    case vl =>
                      have e1 := Go.Pv.RowsIn.length S10.out.rows
                      rw [List.length_append] at e1
                      have e2 := stepTo_len bt e xss k
                      have e3 := (extTo_len bt e (xss.getD k []) 0).1
                      have e4 := rowsG_le G.out
                      have e5 : k * bt.length ≤ 100000 * 1000 := Nat.mul_le_mul (by omega) hbl
                      show vs10.length ≤ 1000000000
                      omega
                    case go =>
                      intro U w4 V v hS hG
                      simp only [List.setIfInBounds_toArray, List.set_cons_succ, List.set_cons_zero]
                      go_wp2
                      go_roundg (bt.length - (0 + 1))
                      case measure => omega
                      case rel =>
                        refine ⟨0 + 1, vs10 ++ [v], by go_num, by omega, Nat.le_refl _, ?_, D11.trans hG (Nat.le_refl _)⟩
                        rw [show extTo bt e (xss.getD k []) (0 + 1) = extTo bt e (xss.getD k []) 0 ++ [r ++ [x]] from by rw [← q1, ext_yes (by unfold extC; rw [hri, Nat.add_sub_cancel, ← q2, ← q3, decide_eq_true c1, decide_eq_true c2]; rfl), ← q2], ← List.append_assoc]
                        exact hS
                  · obtain ⟨jm, hjm⟩ : ∃ m, j = m + 1 := ⟨j - 1, by omega⟩
                    have lz := lb jm (by omega)
                    rw [← World.cell?_of_block (w' := w3) ((D3.out.same b (by omega)).trans (D.out.same b h6))] at lz
                    obtain ⟨z, hz⟩ : ∃ z, z = bt.getD jm 0 := ⟨_, rfl⟩
                    rw [← hz] at lz
                    have BZ : Aside (z = bt.getD jm 0 ∧ j = jm + 1) := ⟨hz, hjm⟩
                    clear hz
                    have wj : IntKind.i64.wrap ((j : Int) - 1) = (jm : Int) := by rw [IntKind.wrap_i64]; omega
                    have bj : (jm : Int) < (bt.length : Int) := by omega
                    have dj : decide ((j : Int) = 0) = false := decide_eq_false (by omega)
                    clear hjm lb
                    by_cases c4 : z < x
                    · have d4 : decide (z < x) = true := decide_eq_true c4
                      go_wp2_with fail
                      go_quiet (fail)
                      go_wp2
                      obtain ⟨q1, q2, q3⟩ := BK.out
                      have S11 := S10.out.drew nq
                      have D11 := D3.out.drew nq
                      refine region13' (c := ⟨_, _, w3.drewN nq, .slice (some ⟨g, 0, none⟩) xss.length c7, _, w1.heap.size, g, k, c7, xss.length, gq, ck, b, o, bt.length, cap, j, r, x, vs10, _⟩) ⟨rfl, rfl, rfl, rfl, rfl, hkn, hjn, h2, h4, Nat.lt_of_lt_of_le h6 D.out.size, by show (w3.drewN nq).cell? _ = _; rw [hri]; exact lr, fun q hq => ?ck, la, D11.size, by show 0 < r.length; omega, by show r.length ≤ 10000; omega, ?vl, S11⟩ rfl rfl (by kernel_rfl) ?go
                      case ck => show (w3.drewN nq).cell? _ = _; rw [show (w3.drewN nq).cell? ⟨gq, q, none⟩ = w3.cell? ⟨gq, q, none⟩ from rfl, World.cell?_of_block (D3.out.same gq h4)]; exact LL.out q hq
                      case vl =>
                        have e1 := Go.Pv.RowsIn.length S10.out.rows
                        rw [List.length_append] at e1
                        have e2 := stepTo_len bt e xss k
                        have e3 := (extTo_len bt e (xss.getD k []) j).1
                        have e4 := rowsG_le G.out
                        have e5 : k * bt.length ≤ 100000 * 1000 := Nat.mul_le_mul (by omega) hbl
                        show vs10.length ≤ 1000000000
                        omega
                      case go =>
                        intro U w4 V v hS hG
                        simp only [List.setIfInBounds_toArray, List.set_cons_succ, List.set_cons_zero]
                        go_wp2
                        go_roundg (bt.length - (j + 1))
                        case measure => omega
                        case rel =>
                          refine ⟨j + 1, vs10 ++ [v], by go_num, by omega, Nat.le_refl _, ?_, D11.trans hG (Nat.le_refl _)⟩
                          rw [show extTo bt e (xss.getD k []) (j + 1) = extTo bt e (xss.getD k []) j ++ [r ++ [x]] from by rw [← q1, ext_yes (by unfold extC; rw [hri, Nat.add_sub_cancel, ← q2, ← q3, decide_eq_true c1, decide_eq_true c2, show j - 1 = jm by (have := BZ.out.2; omega), ← BZ.out.1, decide_eq_true c4, Bool.or_true]; rfl), ← q2], ← List.append_assoc]
                          exact hS
                    · have d4 : decide (z < x) = false := decide_eq_false c4
                      go_wp2_with fail
                      go_quiet (fail)
                      go_wp2
                      go_roundg (bt.length - (j + 1))
                      case measure => omega
                      case rel =>
                        obtain ⟨q1, q2, q3⟩ := BK.out
                        refine ⟨j + 1, vs10, by go_num, by omega, Nat.le_refl _, ?_, D3.out.drew nq⟩
                        rw [← q1, ext_no (by unfold extC; rw [hri, Nat.add_sub_cancel, ← q2, ← q3, show j - 1 = jm by (have := BZ.out.2; omega), ← BZ.out.1, decide_eq_false (show ¬ z < x by omega), show Nat.beq j 0 = false by (rw [BZ.out.2]; rfl)]; simp)]
                        have := S10.out.drew nq
                        rw [← q1] at this
                        exact this
                · have d2 : decide (x < e) = false := decide_eq_false c2
                  go_wp2_with fail
                  go_quiet (fail)
                  go_wp2
                  go_roundg (bt.length - (j + 1))
                  case measure => omega
                  case rel =>
                    obtain ⟨q1, q2, q3⟩ := BK.out
                    refine ⟨j + 1, vs10, by go_num, by omega, Nat.le_refl _, ?_, D3.out.drew nq⟩
                    rw [← q1, ext_no (by unfold extC; rw [hri, Nat.add_sub_cancel, ← q2, ← q3, decide_eq_false (show ¬ x < e by omega)]; simp)]
                    have := S10.out.drew nq
                    rw [← q1] at this
                    exact this
              · have d1 : decide (x > y) = false := decide_eq_false c1
                go_wp2_with fail
                go_quiet (fail)
                go_wp2
                go_roundg (bt.length - (j + 1))
                case measure => omega
                case rel =>
                  obtain ⟨q1, q2, q3⟩ := BK.out
                  refine ⟨j + 1, vs10, by go_num, by omega, Nat.le_refl _, ?_, D3.out.drew nq⟩
                  rw [← q1, ext_no (by unfold extC; rw [hri, Nat.add_sub_cancel, ← q2, ← q3, decide_eq_false (show ¬ y < x by omega)]; rfl)]
                  have := S10.out.drew nq
                  rw [← q1] at this
                  exact this
            · go_wp2
              go_roundg (xss.length - (k + 1))
              case measure => omega
              case rel =>
                have hjb : j = bt.length := by omega
                have h := S10.out
                rw [hjb] at h
                exact ⟨k + 1, vs10, by go_num, by omega, Nat.le_refl _, h, D3.out⟩
        · go_wp2
          go_roundg (cnt.toNat - (i + 1))
          case measure => omega
          case rel =>
            have hkb : k = xss.length := by omega
            have h := S9.out
            rw [hkb] at h
            have hG := G.out
            rw [show cnt.toNat - i = (cnt.toNat - (i + 1)) + 1 by omega, rowsG, Nat.ble_eq_true_of_le (rowsG_le G.out), cond_true] at hG
            exact ⟨i + 1, vs9, _, by go_num, by omega, Nat.le_refl _, h.base D.out.size, hG, stepTo_lens hlen.out, D.out.trans D2.out D.out.size⟩
    · go_wp2
      go_loopg [12] xss.length (fun g v12 wr2 => ∃ (k : Nat) (vs2 : List Value), v12 = .int .i64 k ∧ k ≤ xss.length ∧ xss.length - k ≤ g ∧ Aside (RowSt wr2 w.heap.size (.slice A7 xss.length c7) vs2 (endTo e xss k)) ∧ Aside (Gro w.heap.size w wr2))
      case atStart => exact ⟨0, vs, rfl, Nat.zero_le _, Nat.le_refl _, by rw [endTo_zero]; exact S.out, D.out⟩
      case round =>
        obtain ⟨k, vs2, rfl, hk, hg2, S2, D2⟩ := hrel
        by_cases hltk : (k : Int) < (xss.length : Int)
        · have hkn : k < xss.length := by omega
          have hlen2 := endTo_len e xss k
          have hget : (endTo e xss k).getD k [] = xss.getD k [] := by rw [List.getD_eq_getElem?_getD, endTo_get e hkn, ← List.getD_eq_getElem?_getD]
          have hri : (xss.getD k []).length = i + 1 := hlen.out _ (by rw [List.getD_eq_getElem?_getD, List.getElem?_eq_getElem hkn]; exact List.getElem_mem hkn)
          have S3 := S2.out
          rw [← hlen2] at S3
          obtain ⟨g, gq, ck, rfl, h1, lr, B, n', c', w2, hap, ⟨u0, lu⟩, fz, S4, D4⟩ := S3.ended (k := k) (by omega) e D2.out.size (by rw [hget]; omega)
          rw [hget] at lr hap S4
          rw [hlen2] at S4
          have hend : (endTo e xss k).set k (xss.getD k [] ++ [e]) = endTo e xss (k + 1) := endTo_succ e (by rw [List.getD_eq_getElem?_getD, List.getElem?_eq_getElem hkn]; rfl)
          rw [hend] at S4
          have A4 : Aside (RowSt (w2.setCell ⟨g, k, none⟩ (.slice B n' c')) w.heap.size (.slice (some ⟨g, 0, none⟩) xss.length c7) (vs2.set k (.slice B n' c')) (endTo e xss (k + 1)) ∧ Gro w.heap.size wr (w2.setCell ⟨g, k, none⟩ (.slice B n' c'))) := ⟨S4, D4⟩
          obtain ⟨nr, hnr⟩ : ∃ n, n = (xss.getD k []).length := ⟨_, rfl⟩
          rw [← hnr] at lr hap
          have HAP : Aside _ := hap
          clear S3 S4 D4 hget hlen2 hend hri hnr hap
          go_wp2_with (at_builtin; refine wpList_app_run rfl (.tmp 100) (.tmp 102) 22 rfl rfl rfl HAP.out ?_)
          go_roundg (xss.length - (k + 1))
          case measure => omega
          case rel => exact ⟨k + 1, _, by go_num, by omega, Nat.le_refl _, A4.out.1, D2.out.trans A4.out.2 (Nat.le_refl _)⟩
        · go_wp2
          go_ret
          have hkb : k = xss.length := by omega
          have hii : cnt.toNat - i = 0 := by omega
          have hG := G.out
          rw [hii, rowsG, Nat.ble_eq_true_of_le hX, cond_true] at hG
          cases hG
          have h := S2.out
          rw [hkb, endTo_all] at h
          first | exact ⟨D2.out, _, h⟩ | exact ⟨_, rfl, D2.out, _, h⟩ | exact ⟨_, _, rfl, D2.out, h⟩
theorem rd_row {S : Nat → Prop} {w : World} {xs : List Int} {v : Value} (hS : ∀ b, S b → b < w.heap.size) (h : Rep S w (.sl (.int .i64)) xs [v]) : RdRow w.heap.size w v xs := by
  obtain ⟨A, cap, e, h1, h2⟩ := h
  refine ⟨A, cap, (List.cons.inj e).1, fun h0 => ?_⟩
  obtain ⟨b, o, ds, rfl, hb, hc, hr⟩ := h2 h0
  refine ⟨b, o, rfl, hS b hb, fun j hj => hc j _ ?_⟩
  rw [row_ints hr, List.getElem?_map, List.getD_eq_getElem?_getD, List.getElem?_eq_getElem hj]
  rfl
/-- What rows leaves. -/
theorem rows_left {S : Nat → Prop} {w : World} {bs : List Nat} {vb : Value} {bt : List Int} {cnt e : Int} {y : List (List Int)} (ho : Own S w bs) (hb : RdRow w.heap.size w vb bt) (hy : rowsF bt cnt e = some y) :
    Calls Try.prog 64 #[vb, .int .i64 cnt, .int .i64 e] w fun ev w' => ∃ V S' b1, ev = .returned V ∧ Ran S w bs S' w' (b1 ++ bs) ∧ ShR S' w' (.own (.sl (.int .i64))) y V b1 ∧ ∀ b, b < w.heap.size → w'.heap[b]? = w.heap[b]? := by
  unfold rowsF at hy
  cases hc : (Nat.ble bt.length 1000 && decide (cnt ≤ 1000)) with
  | false => rw [hc] at hy; cases hy
  | true =>
  rw [hc, cond_true] at hy
  rw [Bool.and_eq_true] at hc
  have hb1 := Nat.le_of_ble_eq_true hc.1
  have hb2 := of_decide_eq_true hc.2
  cases hG : rowsG bt e cnt.toNat [[0]] with
  | none => rw [hG] at hy; cases hy
  | some fin =>
  rw [hG] at hy
  have hy : y = fin.map fun r => r ++ [e] := (Option.some.inj hy).symm
  refine (rows64 hb hb1 hb2 hG).mono ?_
  rintro ev w' ⟨V, vs', rfl, hg, hR⟩
  rw [← hy] at hR
  obtain ⟨P, rfl, hrow, hPb⟩ := rows_at (S := fun b => S b ∨ ∃ v ∈ vs', v.ownBlock = some b) hR.own hR.rows (fun v hv g hvg => .inr ⟨v, hv, hvg⟩)
  have hin : ∀ b, (∃ v ∈ vs', v.ownBlock = some b) → w.heap.size ≤ b ∧ b < w'.heap.size := by
    rintro b ⟨v, hv, hvb⟩
    obtain ⟨xs, hx⟩ := RowsIn_mem hR.rows v hv
    exact World.ownsRow.lt hx b hvb
  have hout : P.nl = false → w.heap.size ≤ P.b ∧ P.b < w'.heap.size ∧ ¬ ∃ v ∈ vs', v.ownBlock = some P.b := by
    intro hn
    have h1 := hPb hn
    have h2 := hR.own.lt P.b h1
    refine ⟨h2.1, h2.2, ?_⟩
    rintro ⟨v, hv, hvb⟩
    exact hR.outer v hv (hvb.trans h1.symm)
  have hmem : ∀ c ∈ (cond P.nl [] [P.b] : List Nat), P.nl = false ∧ c = P.b := by
    intro c hc
    cases hn : P.nl with
    | true => rw [hn] at hc; cases hc
    | false => rw [hn] at hc; exact ⟨rfl, List.mem_singleton.1 hc⟩
  refine ⟨_, _, cond P.nl [] [P.b], rfl, ⟨hg.os, hg.tape, hg.out, hg.size, fun b hb _ => hg.same b hb, fun b hb => .inl hb, fun b hb => ?_, fun c hc => ?_, fun c hc => ?_, ?_, fun b hb => ?_⟩, ⟨P, rfl, hrow, rfl⟩, hg.same⟩
  · rcases hb with hb | hb
    · exact .inl hb
    · exact .inr (.inl (hin b hb).1)
  · rcases List.mem_append.1 hc with hc | hc
    · obtain ⟨hn, rfl⟩ := hmem c hc
      exact .inr (hout hn).1
    · exact .inl hc
  · rcases List.mem_append.1 hc with hc | hc
    · obtain ⟨hn, rfl⟩ := hmem c hc
      obtain ⟨h1, h2, h3⟩ := hout hn
      refine ⟨h2, fun hS => ?_⟩
      rcases hS with hS | hS
      · have := ho.sb _ hS; omega
      · exact h3 hS
    · obtain ⟨h1, h2⟩ := ho.old c hc
      refine ⟨Nat.lt_of_lt_of_le h1 hg.size, fun hS => ?_⟩
      rcases hS with hS | hS
      · exact h2 hS
      · have := (hin c hS).1; omega
  · rw [List.nodup_append]
    refine ⟨?_, ho.nd, fun a ha b hb q => ?_⟩
    · cases P.nl with
      | true => exact .nil
      | false => exact List.nodup_cons.2 ⟨by simp, .nil⟩
    · obtain ⟨hn, rfl⟩ := hmem a ha
      have h1 := (hout hn).1
      have h2 := (ho.old b hb).1
      omega
  · rcases hb with hb | hb
    · exact Nat.lt_of_lt_of_le (ho.sb b hb) hg.size
    · exact (hin b hb).2
theorem rows_ent64 : EntOk Try.prog 64 ⟨[(.dat (.sl (.int .i64)), false), (.dat (.int .i64), false), (.dat (.int .i64), false)], .own (.sl (.int .i64)), List (List Int), fun x => rowsF x.1 x.2.1 x.2.2.1, fun _ => (fun y => (y, ())), false⟩ := by
  refine ⟨⟨_, _, Try.func64, rfl, by kernel_rfl⟩, ?_⟩
  rintro S w vs ⟨bt, cnt, e, u⟩ bs y ho ⟨v, r, b1, b2, rfl, rfl, ⟨hv, rfl⟩, v2, r2, b3, b4, rfl, rfl, ⟨hv2, rfl⟩, v3, r3, b5, b6, rfl, rfl, ⟨hv3, rfl⟩, rfl, rfl⟩ hy
  have hv : Rep S w (.sl (.int .i64)) bt [v] := hv
  have hv2 : [v2] = [Value.int .i64 cnt] := hv2
  have hv3 : [v3] = [Value.int .i64 e] := hv3
  obtain rfl := (List.cons.inj hv2).1
  obtain rfl := (List.cons.inj hv3).1
  have ho : Own S w [] := ho
  refine (rows_left ho (rd_row ho.sb hv) hy).mono ?_
  rintro ev w' ⟨V, S', b1, rfl, hr, hsh, -⟩
  exact ⟨S', b1, [], hr, hsh, v, _, [], [], rfl, rfl, ⟨Rep.move hr.sub (fun b hb => hr.still ho b hb) hv, rfl⟩, _, _, [], [], rfl, rfl, ⟨rfl, rfl⟩, _, _, [], [], rfl, rfl, ⟨rfl, rfl⟩, rfl, rfl⟩
/-- The same; the list is a row of the caller's own and stays his. -/
theorem rows_ent64o : EntOk Try.prog 64 ⟨[(.own (.int .i64), false), (.dat (.int .i64), false), (.dat (.int .i64), false)], .own (.sl (.int .i64)), List (List Int), fun x => rowsF x.1 x.2.1 x.2.2.1, fun _ => (fun y => (y, ())), false⟩ := by
  refine ⟨⟨_, _, Try.func64, rfl, by kernel_rfl⟩, ?_⟩
  rintro S w vs ⟨bt, cnt, e, u⟩ bs y ho ⟨v, r, b1, b2, rfl, rfl, ⟨p, hvp, hrow, hb1⟩, v2, r2, b3, b4, rfl, rfl, ⟨hv2, rfl⟩, v3, r3, b5, b6, rfl, rfl, ⟨hv3, rfl⟩, rfl, rfl⟩ hy
  obtain rfl := (List.cons.inj hvp).1
  subst hb1
  have hv2 : [v2] = [Value.int .i64 cnt] := hv2
  have hv3 : [v3] = [Value.int .i64 e] := hv3
  obtain rfl := (List.cons.inj hv2).1
  obtain rfl := (List.cons.inj hv3).1
  have e0 : (cond p.nl [] [p.b] ++ ([] ++ ([] ++ [])) : List Nat) = cond p.nl [] [p.b] := List.append_nil _
  rw [e0] at ho
  have hrow : RowAt S w p (.int .i64) bt := hrow
  have hrd : RdRow w.heap.size w (rowVal p) bt := by
    obtain ⟨e1, h⟩ := hrow
    rcases h with ⟨hn, h0, hc⟩ | ⟨hn, cs, ty, hh, h1, h2, h3, h4⟩
    · refine ⟨none, 0, ?_, fun h => by rw [h0] at h; exact absurd h (Nat.lt_irrefl 0)⟩
      unfold rowVal
      rw [hn, hc, e1]; rfl
    · refine ⟨some ⟨p.b, p.o, none⟩, p.cap, by unfold rowVal; rw [hn, e1]; rfl, fun h0 => ⟨p.b, p.o, rfl, ?_, fun j hj => ?_⟩⟩
      · exact (ho.old p.b (by rw [hn]; exact List.mem_singleton.2 rfl)).1
      · have h5 := row_ints h4
        have h6 : (cs.drop p.o)[j]? = some (.int .i64 (bt.getD j 0)) := by
          have : ((cs.drop p.o).take (bt.length * 1))[j]? = some (.int .i64 (bt.getD j 0)) := by
            have h5 : (cs.drop p.o).take (bt.length * 1) = bt.map (Value.int .i64) := h5
            rw [h5, List.getElem?_map, List.getD_eq_getElem?_getD, List.getElem?_eq_getElem hj]; rfl
          rw [List.getElem?_take] at this
          split at this
          · exact this
          · cases this
        rw [List.getElem?_drop] at h6
        unfold World.cell?
        simp only []
        rw [hh]
        simpa using h6
  refine (rows_left ho hrd hy).mono ?_
  rintro ev w' ⟨V, S', b1, rfl, hr, hsh, hall⟩
  have hsame : p.nl = false → w'.heap[p.b]? = w.heap[p.b]? := fun hn => hall _ (ho.old p.b (by rw [hn]; exact List.mem_singleton.2 rfl)).1
  refine ⟨S', b1, cond p.nl [] [p.b], by rw [e0]; exact hr, hsh, rowVal p, _, cond p.nl [] [p.b], [], rfl, (List.append_nil _).symm, ⟨p, rfl, hrow.move hr.sub (fun b hb => hr.still ho b hb) hsame, rfl⟩, _, _, [], [], rfl, rfl, ⟨rfl, rfl⟩, _, _, [], [], rfl, rfl, ⟨rfl, rfl⟩, rfl, rfl⟩
end Go.Proofs.Ytdgibokmaannjaa
