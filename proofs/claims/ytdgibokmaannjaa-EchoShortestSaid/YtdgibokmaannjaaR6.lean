/- Regions that draw their order, and rows that grow: what the walks by hand use. -/
import Derived.Test.YtdgibokmaannjaaR5
import Derived.LoopTactic
import Derived.Tactics
import Derived.Tactics2
import Derived.WalkKit
import Derived.Laws.Append
import Derived.BigQuiet
import Derived.Deep.QuietTactic
import Derived.Deep.LoopGhost
set_option maxRecDepth 100000
set_option linter.unusedVariables false
set_option linter.unusedSimpArgs false
namespace Go.Proofs.Ytdgibokmaannjaa
open Go Go.Pv Go.RowKit

/-- The operations of a region. -/
def opsOf (n : Nat) : Code → Option (Array Oper)
  | .region i ops _ => cond (Nat.beq i n) (some ops) none
  | .seq a b => match opsOf n a with | some r => some r | none => opsOf n b
  | .cond _ a b => match opsOf n a with | some r => some r | none => opsOf n b
  | .block _ c => opsOf n c
  | .loop c => opsOf n c
  | _ => none
/-- Must operation k come ahead of operation i? -/
def needs (ops : Array Oper) (i k : Nat) : Bool := match ops.toList[i]? with | some o => o.after.toList.any fun e => Nat.beq e.on k && Region.binds .any e | none => false
/-- Do the edges go back alone? -/
def lowB (ops : Array Oper) : Bool := (List.range ops.toList.length).all fun i => match ops.toList[i]? with | some o => o.after.toList.all fun e => Nat.blt e.on i | none => true

/-- A region that draws its order: what holds of the operations that have run. -/
theorem wp_region_inv {P : Program} (hm : P.follows .mixedOrders = true) {id : Nat} {ops : Array Oper} {Q : Exit → Act → World → Prop} {a : Act} {w : World} (I : (Nat → Bool) → Act → World → Prop)
    (hlow : lowB ops = true)
    (h0 : I (fun _ => false) a { w with drawn := w.drawn + 1 })
    (hstep : ∀ (i : Nat) (o : Oper) (L : Nat → Bool) (a : Act) (w : World), ops[i]? = some o → I L a w → L i = false → (∀ k, needs ops i k = true → L k = true) → wpOp P ops Q i (I (fun k => L k || Nat.beq k i)) a w)
    (hext : ∀ (L L' : Nat → Bool) a w, (∀ k, L k = L' k) → I L a w → I L' a w)
    (hend : ∀ (L : Nat → Bool) a w, (∀ i, i < ops.size → L i = true) → I L a w → Q .normal a w) : (Code.region id ops true).wp P Q a w := by
  have hlow' : ∀ (i : Nat) (o : Oper), ops[i]? = some o → ∀ e : Edge, e ∈ o.after → e.on < i := by
    intro i o ho e he
    unfold lowB at hlow
    rw [List.all_eq_true] at hlow
    have hi : i < ops.size := (Array.getElem?_eq_some_iff.1 ho).1
    have := hlow i (List.mem_range.2 (by simpa using hi))
    rw [Array.getElem?_toList, ho] at this
    simp only [List.all_eq_true] at this
    have := this e (Array.mem_toList_iff.2 he)
    rwa [Nat.blt_eq] at this
  refine wp_region_any hm ?_
  have noReady : ∀ (listed : Array Bool), listed.size = ops.size → Region.ready .any ops listed = [] → ∀ i, i < ops.size → listed.getD i false = true := by
    intro listed hsz hr i
    induction i using Nat.strongRecOn with
    | _ i ih =>
      intro hi
      cases hl : listed.getD i false with
      | true => rfl
      | false =>
        exfalso
        have hmem : i ∈ Region.ready .any ops listed := by
          rw [mem_ready]
          have hilt : i < listed.size := by omega
          refine ⟨?_, ops[i], Array.getElem?_eq_getElem hi, fun e he hb => ?_⟩
          · rw [Array.getD_eq_getD_getElem?, Array.getElem?_eq_getElem hilt] at hl ⊢
            simpa using hl
          · have := hlow' i ops[i] (Array.getElem?_eq_getElem hi) e he
            exact ih e.on this (by omega)
        rw [hr] at hmem
        cases hmem
  have main : ∀ (fuel : Nat) (listed : Array Bool) (a : Act) (w : World), listed.size = ops.size → cnt (fun i => listed.getD i false) ops.size ≤ fuel → I (fun i => listed.getD i false) a w → wpAny P .any ops Q fuel listed a w := by
    intro fuel
    induction fuel with
    | zero =>
      intro listed a w hsz hc hi
      have hall := cnt_zero (Nat.le_zero.1 hc)
      refine ⟨?_, hend _ a w hall hi⟩
      cases hrd : Region.ready .any ops listed with
      | nil => rfl
      | cons x xs =>
        exfalso
        have hx : x ∈ Region.ready .any ops listed := by rw [hrd]; simp
        obtain ⟨h1, o, ho, _⟩ := mem_ready.1 hx
        have hlt : x < ops.size := (Array.getElem?_eq_some_iff.1 ho).1
        have h2 := hall x hlt
        have hilt : x < listed.size := by omega
        rw [Array.getD_eq_getD_getElem?, Array.getElem?_eq_getElem hilt] at h1 h2
        simp only [Option.getD_some] at h1 h2
        rw [h1] at h2; cases h2
    | succ fuel ih =>
      intro listed a w hsz hc hi
      refine ⟨fun hr => hend _ a w (noReady listed hsz hr) hi, fun j hjr => ?_⟩
      obtain ⟨h1, o, ho, hedges⟩ := mem_ready.1 hjr
      have hjs : j < ops.size := (Array.getElem?_eq_some_iff.1 ho).1
      have hjlt : j < listed.size := by omega
      have hjE : listed.getD j false = false := by
        rw [Array.getD_eq_getD_getElem?, Array.getElem?_eq_getElem hjlt] at h1 ⊢
        simpa using h1
      have hset : ∀ k, (listed.getD k false || Nat.beq k j) = (listed.setIfInBounds j true).getD k false := by
        intro k
        by_cases hk : k = j
        · subst hk
          simp [Array.getD_eq_getD_getElem?, hjlt]
        · rw [Array.getD_eq_getD_getElem?, Array.getD_eq_getD_getElem?, Array.getElem?_setIfInBounds_ne (by omega)]
          have : Nat.beq k j = false := by
            cases hb : Nat.beq k j with
            | false => rfl
            | true => exact absurd (Nat.eq_of_beq_eq_true hb) hk
          rw [this, Bool.or_false]
      refine wpOp_mono (fun a' w' h => ?_) (hstep j o _ a w ho hi hjE fun k hk => ?_)
      · refine ih _ a' w' (by rw [Array.size_setIfInBounds]; exact hsz) ?_ (hext _ _ _ _ hset h)
        have := cnt_less (f := fun i => listed.getD i false) (g := fun i => (listed.setIfInBounds j true).getD i false) (fun i h => (hset i).symm.trans (by rw [show listed.getD i false = true from h]; rfl)) hjE (by show _ = true; rw [← hset j, Nat.beq_refl, Bool.or_true]) hjs
        omega
      · unfold needs at hk
        rw [Array.getElem?_toList, ho] at hk
        simp only [List.any_eq_true, Bool.and_eq_true] at hk
        obtain ⟨e, he, h2, h3⟩ := hk
        have := hedges e (Array.mem_toList_iff.1 he) h3
        rw [Nat.eq_of_beq_eq_true h2] at this
        exact this
  refine main ops.size _ a _ (by simp) ?_ (hext _ _ _ _ (fun k => ?_) h0)
  · have : ∀ (f : Nat → Bool) n, cnt f n ≤ n := by
      intro f n
      induction n with
      | zero => exact Nat.le_refl _
      | succ n ih => rw [cnt]; cases f n <;> simp <;> omega
    exact this _ _
  · rw [Array.getD_eq_getD_getElem?, Array.getElem?_replicate]
    split <;> rfl
theorem wpOp_val {P : Program} {ops : Array Oper} {Q : Exit → Act → World → Prop} {i : Nat} {o : Oper} {K : Act → World → Prop} {a : Act} {w w' : World} {v : Value} (ho : ops[i]? = some o) (hg : o.guard = none)
    (hr : (execOp a.eval o).run P w = .ok (.value v) w') (hK : K (a.put o.dst v) w') : wpOp P ops Q i K a w := by
  unfold wpOp
  rw [ho]
  have : Region.wanted o (yielded ops a.tmps) = true := by unfold Region.wanted; rw [hg]
  simp only [this, if_true]
  left
  unfold Oper.wp
  rw [hr]
  exact hK
theorem x_move (a : Act) (d : Option Tmp) (t ty : Nat) (p : String) (f : Array Edge) (w : World) : (execOp a.eval ⟨d, .move (.tmp t), ty, p, f, none⟩).run Try.prog w = .ok (.value (a.tmps.getD t undef)) w := rfl
theorem x_index22 (a : Act) (d : Option Tmp) (s t ty : Nat) (p : String) (f : Array Edge) (w : World) {b o n c k : Nat} (h1 : a.tmps.getD s undef = .slice (some ⟨b, o, none⟩) n c) (h2 : a.tmps.getD t undef = .int .i64 (k : Int)) (hk : k < n) :
    (execOp a.eval ⟨d, .indexAddr 22 (.tmp s) (.tmp t), ty, p, f, none⟩).run Try.prog w = .ok (.value (.pointer (some ⟨b, o + k, none⟩))) w := by
  have e1 : a.eval (.tmp s) = .slice (some ⟨b, o, none⟩) n c := h1
  have e2 : a.eval (.tmp t) = .int .i64 (k : Int) := h2
  have hk' : (k : Int) < n := by omega
  simp only [execOp, e1, e2]
  simp [go_sem, hk', hk]
theorem x_load3 (a : Act) (d : Option Tmp) (s ty : Nat) (p : String) (f : Array Edge) (w : World) {ad : Addr} {v : Value} (h1 : a.tmps.getD s undef = .pointer (some ad)) (h2 : w.cell? ad = some v) :
    (execOp a.eval ⟨d, .load 3 (.tmp s), ty, p, f, none⟩).run Try.prog w = .ok (.value v) w := by
  have e1 : a.eval (.tmp s) = .pointer (some ad) := h1
  simp only [execOp, e1]
  simp [go_sem, h2]
/-- Memory has only grown. -/
structure Gro (base : Nat) (w w' : World) : Prop where
  os : w'.os = w.os
  tape : w'.tape = w.tape
  out : OutOk w w'
  size : w.heap.size ≤ w'.heap.size
  same : ∀ b, b < base → w'.heap[b]? = w.heap[b]?
theorem Gro.refl (base : Nat) (w : World) : Gro base w w := ⟨rfl, rfl, ⟨rfl, Nat.le_refl _⟩, Nat.le_refl _, fun _ _ => rfl⟩
theorem Gro.trans {base base2 : Nat} {w w1 w2 : World} (h : Gro base w w1) (k : Gro base2 w1 w2) (hb : base ≤ base2) : Gro base w w2 :=
  ⟨k.os.trans h.os, k.tape.trans h.tape, OutOk.trans (w1 := w1) k.out h.out, Nat.le_trans h.size k.size, fun b hb' => (k.same b (by omega)).trans (h.same b hb')⟩
/-- A row of numbers that is read. -/
def RdRow (base : Nat) (w : World) (v : Value) (xs : List Int) : Prop :=
  ∃ A cap, v = .slice A xs.length cap ∧ (0 < xs.length → ∃ b o, A = some ⟨b, o, none⟩ ∧ b < base ∧ ∀ j, j < xs.length → w.cell? ⟨b, o + j, none⟩ = some (.int .i64 (xs.getD j 0)))
theorem RdRow.gro {base : Nat} {w w' : World} {v : Value} {xs : List Int} (h : RdRow base w v xs) (hg : Gro base w w') : RdRow base w' v xs := by
  obtain ⟨A, cap, e, h⟩ := h
  refine ⟨A, cap, e, fun h0 => ?_⟩
  obtain ⟨b, o, e1, h1, h2⟩ := h h0
  exact ⟨b, o, e1, h1, fun j hj => by rw [World.cell?_of_block (hg.same b h1)]; exact h2 j hj⟩


section
variable {w w1 w2 : World}
theorem put_at {a : Act} {d : Nat} {v : Value} (hd : d < a.tmps.size) : (a.put (some d) v).tmps.getD d undef = v := by
  show (a.tmps.setIfInBounds d v).getD d undef = v
  rw [getD_set _ _ _ _ hd, if_pos rfl]
theorem put_ne {a : Act} {d t : Nat} {v : Value} (hd : d < a.tmps.size) (h : d ≠ t) : (a.put (some d) v).tmps.getD t undef = a.tmps.getD t undef := by
  show (a.tmps.setIfInBounds d v).getD t undef = _
  rw [getD_set _ _ _ _ hd, if_neg h]
theorem put_size (a : Act) (d : Nat) (v : Value) : (a.put (some d) v).tmps.size = a.tmps.size := Array.size_setIfInBounds
theorem down_put {ops : Array Oper} {L : Nat → Bool} {i : Nat} (h : ∀ k q, L k = true → needs ops k q = true → L q = true) (hn : ∀ k, needs ops i k = true → L k = true) : ∀ k q, (L k || Nat.beq k i) = true → needs ops k q = true → (L q || Nat.beq q i) = true := by
  intro k q h1 h2
  rw [Bool.or_eq_true] at h1 ⊢
  rcases h1 with h1 | h1
  · exact .inl (h k q h1 h2)
  · have := Nat.eq_of_beq_eq_true h1
    subst this
    exact .inl (hn q h2)
theorem size_alloc_lt (w : World) (o : Obj) : w.heap.size < (w.alloc o).heap.size := by
  show w.heap.size < (w.heap.push o).size
  rw [Array.size_push]; omega
theorem size_alloc_le (w : World) (o : Obj) : w.heap.size ≤ (w.alloc o).heap.size := Nat.le_of_lt (size_alloc_lt w o)
theorem cell_alloc_new (w : World) (v : Value) (ty : TypeId) : (w.alloc (.cells #[v] ty)).cell? ⟨w.heap.size, 0, none⟩ = some v := by
  have := heap_alloc_new w (.cells #[v] ty)
  unfold World.cell?
  simp only []
  rw [this]
  rfl
theorem Gro.alloc {base : Nat} (h : Gro base w1 w) (hb : base ≤ w1.heap.size) (o : Obj) : Gro base w1 (w.alloc o) :=
  ⟨h.os, h.tape, h.out, Nat.le_trans h.size (size_alloc_le w o), fun b hb' => (heap_alloc_old w o (by have := h.size; omega)).trans (h.same b hb')⟩
theorem Gro.grown {base : Nat} (h : Gro base w1 w) {row : Option Nat} (hg : w.grownBy w2 row) (hd : w.drawn ≤ w2.drawn) (hb0 : base ≤ w1.heap.size) (hr : ∀ k, row = some k → base ≤ k) : Gro base w1 w2 := by
  refine ⟨hg.os.trans h.os, hg.tape.trans h.tape, ⟨hg.output.trans h.out.1, Nat.le_trans h.out.2 hd⟩, Nat.le_trans h.size hg.size, fun b hb => ?_⟩
  have hlt : b < w.heap.size := by have := h.size; omega
  exact (hg.block b hlt (fun q => by have := hr b q.symm; omega)).trans (h.same b hb)
theorem RowIn.alloc {base e : Nat} {v : Value} {xs : List Int} (h : Go.Pv.RowIn w base e v xs) (o : Obj) : Go.Pv.RowIn (w.alloc o) base e v xs := World.ownsRow.alloc h o
theorem RowIn.slice {base e : Nat} {v : Value} {xs : List Int} (h : Go.Pv.RowIn w base e v xs) : ∃ B n c, v = .slice B n c := by
  rcases h.2 with ⟨h, -⟩ | ⟨g, cap, cur, h, -⟩
  · exact ⟨_, _, _, h⟩
  · exact ⟨_, _, _, h⟩
theorem RowIn.one {base e : Nat} {v : Value} {xs : List Int} (h : Go.Pv.RowIn w base e v xs) : v.oneCell' = true := by
  obtain ⟨B, n, c, rfl⟩ := RowIn.slice h
  rfl
theorem info3 : ∃ i z, Try.prog.info? 3 = some i ∧ i.zero = some z ∧ i.size = 1 ∧ i.bytes = 8 ∧ z.cells.size = 1 := by
  obtain ⟨i, h1, h2, h3, -⟩ := (tiOk 3).info (by decide +kernel)
  obtain ⟨-, -, -, i', z, h5, h6, h7⟩ := (tiOk 3).pure (by kernel_rfl)
  rw [h1] at h5; cases h5
  refine ⟨i, z, h1, h6, h2.trans (by kernel_rfl), h3.trans (by kernel_rfl), ?_⟩
  have := Rep.length (h7 (fun _ => False) default)
  rw [Array.length_toList] at this
  exact this.trans (by kernel_rfl)
theorem app_int {n0 : Nat} {v : Value} {xs news : List Int} {ad : Addr} {m cp : Nat} (h : Go.Pv.RowIn w n0 3 v xs) (hm : 0 < m) (hl : news.length = m) (hn : ∀ q, q < m → w.cell? (ad.add q) = some (.int .i64 (news.getD q 0))) (hlen : xs.length + m ≤ 100000) (hb : n0 ≤ w.heap.size) :
    ∃ v' w', (Builtin.append_ #[22, 22] 22 #[v, .slice (some ad) m cp]).run Try.prog w = .ok v' w' ∧ Go.Pv.RowIn w' n0 3 v' (xs ++ news) ∧ w.grownBy w' v.ownBlock ∧ w.drawn ≤ w'.drawn ∧ (∀ g, v'.ownBlock = some g → v.ownBlock = some g ∨ w.heap.size ≤ g) ∧ ∃ g, v'.ownBlock = some g := by
  obtain ⟨i, z, i1, i2, i3, i4, i5⟩ := info3
  obtain ⟨v', w', h1, h2, h3, h4, h5, h6⟩ := append_own_d (P := Try.prog) n0 22 22 3 i z 1 8 Try.underlying22 i1 i2 i3 i4 i5 (by decide) v xs.length (xs.map (Value.int .i64)) h ad m cp (news.map (Value.int .i64)) hm (by rw [List.length_map, hl, Nat.mul_one])
    (fun j u hj => by
      rw [List.getElem?_map] at hj
      cases hq : news[j]? with
      | none => rw [hq] at hj; cases hj
      | some y =>
        rw [hq] at hj
        have hjm : j < m := by rw [← hl]; exact (List.getElem?_eq_some_iff.1 hq).1
        have := hn j hjm
        rw [List.getD_eq_getElem?_getD, hq] at this
        cases hj
        exact this)
    (fun u hu => by obtain ⟨y, -, rfl⟩ := List.mem_map.1 hu; rfl) (by simp only [maxLen]; omega) (by omega) hb
  refine ⟨v', w', h1, ?_, h3, h5, h6, ?_⟩
  · show w'.ownsRow n0 3 1 v' (xs ++ news).length ((xs ++ news).map _)
    rw [List.length_append, List.map_append, hl]; exact h2
  · rcases h2.2 with ⟨q, -⟩ | ⟨g, cap, cur, rfl, -⟩
    · exact absurd q h4
    · exact ⟨g, rfl⟩
end
/-- append, as one step of the walk: what it does is known. -/
theorem wpList_app_run {P : Program} {ops : Array Oper} {rest : List Oper} {o : Oper} {a : Act} {w w' : World} {Q : Exit → Act → World → Prop} (hgd : o.guard = none) (s x : Operand) (t : TypeId) (ho : o.op = .call { callee := .builtin .append, args := #[s, x], argTypes := #[t, t] })
    {v u r : Value} (hs : a.eval s = v) (hx : a.eval x = u) (hr : (Builtin.append_ #[t, t] o.type #[v, u]).run P w = .ok r w') (h : wpList P ops Q rest (a.put o.dst r) w') : wpList P ops Q (o :: rest) a w :=
  wpList_plain hgd fun _ hK => by
    unfold Oper.wp execOp
    simp only [ho, resolve, invoke, builtin, Sem.run_bind, Sem.run_pure, Result.andThen_ok, List.map_toArray, List.map_cons, List.map_nil, hs, hx, hr]
    exact hK _ _ h
theorem row_ints {S : Nat → Prop} {w : World} : ∀ {l : List Int} {ds : List Value}, RepRow (Rep S w (.int .i64)) l ds → ds = l.map (Value.int .i64)
  | [], ds, h => h
  | x :: l, ds, h => by
    obtain ⟨c, r, e, h1, h2⟩ := h
    have h1 : c = [Value.int .i64 x] := h1
    rw [e, h1, row_ints h2]
    rfl
end Go.Proofs.Ytdgibokmaannjaa
