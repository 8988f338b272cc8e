/- Reached: the keys of a map, drawn in any order and sorted; walked by hand. -/
import Derived.Test.YthdmngalhppkcaaR1
import Derived.LoopTactic
import Derived.Tactics
import Derived.Tactics2
import Derived.WalkKit
import Derived.Laws.Append
import Derived.Laws.IdiomRangeMap
import Derived.Deep.LoopGhost
set_option maxRecDepth 100000
set_option linter.unusedVariables false
set_option linter.unusedSimpArgs false
namespace Go.Proofs.Ythdmngalhppkcaa
open Go Go.Pv Go.Shelf Go.RowKit

abbrev bxT : Ty := .pr (.sl (.arr 2 (.int .i64))) (.sl (.int .i64))

theorem ran_alloc {S : Nat → Prop} {w : World} (ho : Own S w []) (o : Obj) : Ran S w [] S (w.alloc o) [] := by
  have hs : w.heap.size ≤ (w.alloc o).heap.size := by
    show w.heap.size ≤ (w.heap.push o).size
    rw [Array.size_push]; omega
  exact ⟨rfl, rfl, ⟨rfl, Nat.le_refl _⟩, hs, fun b hb _ => heap_alloc_old w o hb, fun _ h => h, fun _ h => .inl h, fun b hb => (by cases hb), fun b hb => (by cases hb), .nil, fun b hb => Nat.lt_of_lt_of_le (ho.sb b hb) hs⟩

/-- A call with one box, which stays where it is. -/
theorem call_box {f : Nat} {r : Sh} {α : Type} {fn : bxT.den → Option α} {out : α → r.ty.den} (h : EntOk Try.prog f ⟨[(.dat bxT, false)], r, α, fun x => fn x.1, fun _ y => (out y, ()), false⟩)
    {S : Nat → Prop} {w : World} {x : bxT.den} {a b : Value} {y : α} (ho : Own S w []) (hx : Rep S w bxT x [a, b]) (hy : fn x = some y) :
    Calls Try.prog f #[.agg #[a, b]] w fun e w' => ∃ v, e = .returned v ∧ ∃ S' b1, Ran S w [] S' w' b1 ∧ ShR S' w' r (out y) v b1 ∧ Rep S' w' bxT x [a, b] := by
  refine (h.2 S w [.agg #[a, b]] (x, ()) [] y ho ⟨_, _, [], [], rfl, rfl, ⟨[a, b], rfl, hx, rfl⟩, rfl, rfl⟩ hy).mono ?_
  intro e w' he
  cases e with
  | returned v =>
    obtain ⟨S', b1, b2, hr, h1, v1, r1, d1, d2, e1, rfl, ⟨cs, e3, h2, rfl⟩, rfl, rfl⟩ := he
    have e1 := List.cons.inj e1
    obtain ⟨e1, -⟩ := e1
    subst e1
    have e3 : (#[a, b] : Array Value) = cs.toArray := Value.agg.inj e3
    have e4 : cs = [a, b] := (congrArg Array.toList e3).symm
    subst e4
    rw [List.append_nil, List.append_nil] at hr
    exact ⟨v, rfl, S', b1, hr, h1, h2⟩
  | panicked c => exact he.elim
  | outgrown => exact he.elim

theorem leI_tr (a b c : Int) (h1 : leI a b = true) (h2 : leI b c = true) : leI a c = true := by
  unfold leI at *; have := of_decide_eq_true h1; have := of_decide_eq_true h2; exact decide_eq_true (by omega)
theorem leI_to (a b : Int) : leI a b = true ∨ leI b a = true := by
  unfold leI; rcases Int.le_total a b with h | h
  · exact .inl (decide_eq_true h)
  · exact .inr (decide_eq_true h)
theorem sort_any {a b : List Int} (h : a.Perm b) : isort leI a = isort leI b :=
  sorted_unique' (le := leI) (fun x y h1 h2 => by unfold leI at h1 h2; have := of_decide_eq_true h1; have := of_decide_eq_true h2; omega)
    ((isort_perm _).trans (h.trans (isort_perm _).symm)) (isort_sorted leI_tr leI_to _) (isort_sorted leI_tr leI_to _)
/-- append, as one step of the walk: what it does is known. -/
theorem wpList_app_run {P : Program} {ops : Array Oper} {rest : List Oper} {o : Oper} {a : Act} {w w' : World} {Q : Exit → Act → World → Prop} (hgd : o.guard = none) (s x : Operand) (t : TypeId) (ho : o.op = .call { callee := .builtin .append, args := #[s, x], argTypes := #[t, t] })
    {v u r : Value} (hs : a.eval s = v) (hx : a.eval x = u) (hr : (Builtin.append_ #[t, t] o.type #[v, u]).run P w = .ok r w') (h : wpList P ops Q rest (a.put o.dst r) w') : wpList P ops Q (o :: rest) a w :=
  wpList_plain hgd fun _ hK => by
    unfold Oper.wp execOp
    simp only [ho, resolve, invoke, builtin, Sem.run_bind, Sem.run_pure, Result.andThen_ok, List.map_toArray, List.map_cons, List.map_nil, hs, hx, hr]
    exact hK _ _ h
set_option maxHeartbeats 4000000 in
theorem reached_ent {i30 : bxT.den → Option Int} {i83 : bxT.den → Option (List (Int × List Int))}
    (h30 : EntOk Try.prog 30 ⟨[(.dat bxT, false)], .dat (.int .i64), Int, fun x => i30 x.1, fun _ y => (y, ()), false⟩)
    (h83 : EntOk Try.prog 83 ⟨[(.dat bxT, false)], .map (.int .i64) (.sl (.int .i64)), List (Int × List Int), fun x => i83 x.1, fun _ y => (y, ()), false⟩) :
    EntOk Try.prog 54 ⟨[(.dat bxT, false)], .cons (.own (.int .i64)) (.cons (.dat (.int .i64)) .un), List Int × Int, fun x => ob (i30 x.1) fun e => (bif decide (e = 0) then ob (i83 x.1) fun m => (if m.length ≤ 1000 then some (isort leI (m.map fun p => p.1), 0) else none) else some ([], e)), fun _ y => ((y.1, y.2, ()), ()), false⟩ := by
  refine ⟨⟨_, _, Try.func54, rfl, by kernel_rfl⟩, ?_⟩
  rintro S w vs ⟨x, u⟩ bs y ho ⟨v, r, b1, b2, rfl, rfl, ⟨cs, rfl, hx, rfl⟩, rfl, rfl⟩ hy
  have hx : Rep S w bxT x cs := hx
  obtain ⟨a, b, rfl⟩ : ∃ a b, cs = [a, b] := by
    obtain ⟨c, r, e, h1, h2⟩ := hx
    have h1 : Rep S w (.sl (.arr 2 (.int .i64))) x.1 c := h1
    have h2 : Rep S w (.sl (.int .i64)) x.2 r := h2
    obtain ⟨A, n, e1, -⟩ := h1
    obtain ⟨A', n', e2, -⟩ := h2
    exact ⟨_, _, by rw [e, e1, e2]; rfl⟩
  have hy : (ob (i30 x) fun e => (bif decide (e = 0) then ob (i83 x) fun m => (if m.length ≤ 1000 then some (isort leI (m.map fun p => p.1), 0) else none) else some ([], e))) = some y := hy
  have ho : Own S w [] := ho
  cases h1 : i30 x with
  | none => rw [h1] at hy; cases hy
  | some e =>
  rw [h1, obS] at hy
  have r1 := ran_alloc ho (.cells #[a, b] 25)
  have o1 := r1.own ho
  have hx1 : Rep S (w.alloc (.cells #[a, b] 25)) bxT x [a, b] := Rep.move (fun _ h => h) (fun k hk => heap_alloc_old w _ (ho.sb k hk)) hx
  have hb1 : (w.alloc (.cells #[a, b] 25)).heap[w.heap.size]? = some (.cells #[a, b] 25 (0, 0)) := heap_alloc_new w _
  have c30 : Calls Try.prog 30 #[Value.agg #[a, b]] (w.alloc (Obj.cells #[a, b] 25)) fun ev w' => ev = .returned (.int .i64 e) ∧ w'.cell? ⟨w.heap.size, 0, none⟩ = some a ∧ w'.cell? ⟨w.heap.size, 1, none⟩ = some b ∧ ∃ S', Ran S (w.alloc (Obj.cells #[a, b] 25)) [] S' w' [] ∧ Rep S' w' bxT x [a, b] := by
    refine (call_box h30 o1 hx1 h1).mono ?_
    rintro ev w2 ⟨v, rfl, S2, b2, r2, ⟨hv, rfl⟩, hx2⟩
    have hv : [v] = [Value.int .i64 e] := hv
    cases hv
    have hb2 : w2.heap[w.heap.size]? = some (Obj.cells #[a, b] 25) := (r2.same _ (by show _ < (w.heap.push _).size; rw [Array.size_push]; omega) (by simp)).trans hb1
    exact ⟨rfl, by simp [World.cell?, hb2], by simp [World.cell?, hb2], S2, r2, hx2⟩
  by_cases he : e = 0
  · subst he
    have hy : (ob (i83 x) fun m => (if m.length ≤ 1000 then some (isort leI (m.map fun p => p.1), (0 : Int)) else none)) = some y := hy
    cases h2 : i83 x with
    | none => rw [h2] at hy; cases hy
    | some m =>
    rw [h2, obS] at hy
    have hlen : m.length ≤ 1000 := by
      by_cases h : m.length ≤ 1000
      · exact h
      · rw [if_neg h] at hy; cases hy
    rw [if_pos hlen] at hy
    cases hy
    have c83 : ∀ (S2 : Nat → Prop) (w2 : World), Own S2 w2 [] → Rep S2 w2 bxT x [a, b] → Calls Try.prog 83 #[Value.agg #[a, b]] w2 fun ev w' => ∃ bm, ev = .returned (.map (some bm)) ∧ ∃ S', Ran S2 w2 [] S' w' [bm] ∧ Rep S' w' bxT x [a, b] ∧ ∃ ents clock, w'.heap[bm]? = some (.map ents clock) ∧ REnts S' w' (.int .i64) (.sl (.int .i64)) m ents.toList ∧ MapKept.Stamped ents clock := by
      intro S2 w2 o2 hx2
      refine (call_box h83 o2 hx2 h2).mono ?_
      rintro ev w3 ⟨v, rfl, S3, b3, r3, ⟨bm, hv, ⟨ents, clock, g1, g2, g3⟩, rfl⟩, hx3⟩
      cases hv
      exact ⟨bm, rfl, S3, r3, hx3, ents, clock, g1, g2, g3⟩
    go_enter Try.func54, Try.ntmps54
    go_wp2_with (first | (go_at_call 30; refine c30.mono ?_; rintro ev w2 ⟨rfl, hca, hcb, S2, r2, hx2⟩) | (go_at_call 83; refine (c83 _ _ (r2.own o1) hx2).mono ?_; rintro ev w3 ⟨bm, rfl, S3, r3, hx3, ents, clock, hm, hre, hst⟩; have hrg := run_range_map (P := Try.prog) w3 90 3 23 bm ents clock Try.underlying90 hm))
    have o3 := r3.own (r2.own o1)
    have hbl : bm < w3.heap.size := (o3.old bm (by simp)).1
    have hall := keys_of hre
    have hhold : ∀ z ∈ ents.toList, z.born < clock := hst.1
    go_loopw [5] (fun o wr => ∃ (p : At) (ks : List Int) (seen : Array Nat), o = rowVal p ∧ RowAt (fun _ => False) wr p (.int .i64) ks ∧ ks.Perm ((seenOf ents.toList seen).map keyI) ∧ wr.heap[w3.heap.size]? = some (.mapIter (some bm) clock seen clock) ∧ (p.nl = false → w3.heap.size < p.b ∧ p.b < wr.heap.size) ∧
        wr.os = w3.os ∧ wr.tape = w3.tape ∧ OutOk w3 wr ∧ w3.heap.size < wr.heap.size ∧ ∀ c, c < w3.heap.size → wr.heap[c]? = w3.heap[c]?)
      (fun _ wr => (leftOf ents (wr.iterSeen w3.heap.size)).size)
    case atStart =>
      refine ⟨⟨0, 0, 0, 0, true⟩, [], #[], rfl, ⟨rfl, .inl ⟨rfl, rfl, rfl⟩⟩, by rw [seenOf_none]; exact List.Perm.refl _, heap_alloc_new w3 _, fun h => by (cases h), rfl, rfl, ⟨rfl, Nat.le_refl _⟩, ?_, fun c hc => heap_alloc_old w3 _ hc⟩
      show _ < (w3.heap.push _).size
      rw [Array.size_push]; omega
    case round =>
      obtain ⟨p, ks, seen, rfl, hrow, hks, hit, hpb, hos, htp, hout, hsz, hsame⟩ := hrel
      have hmr : wr.heap[bm]? = some (.map ents clock) := (hsame bm hbl).trans hm
      rcases run_next_at (P := Try.prog) wr 0 w3.heap.size bm clock clock seen ents clock hit hmr hhold (Nat.le_refl _) with ⟨h0, hrun⟩ | ⟨en, hen, w4, hw4, hrun⟩
      · have hnx : ∀ ty, (Instr.next (.pointer (some ⟨w3.heap.size, 0, none⟩)) false ty).run Try.prog wr = _ := fun _ => hrun
        have hkp : ks.Perm (m.map fun q => q.1) := by
          have := hks
          rw [seenOf_all h0, hall.1] at this
          exact this
        have hkl : ks.length ≤ 1000 := by rw [hkp.length_eq, List.length_map]; exact hlen
        have hsrt : isort leI ks = isort leI (m.map fun q => q.1) := sort_any hkp
        have r4 : Ran S3 w3 [bm] S3 wr (cond p.nl [] [p.b]) := by
          have hin : ∀ c ∈ (cond p.nl [] [p.b] : List Nat), p.nl = false ∧ c = p.b := by
            intro c hc
            cases hn : p.nl with
            | true => rw [hn] at hc; cases hc
            | false => rw [hn] at hc; exact ⟨rfl, List.mem_singleton.1 hc⟩
          refine ⟨hos, htp, hout, Nat.le_of_lt hsz, fun c hc _ => hsame c hc, fun _ h => h, fun _ h => .inl h, fun c hc => ?_, fun c hc => ?_, ?_, fun c hc => Nat.lt_trans (o3.sb c hc) hsz⟩
          · obtain ⟨h, rfl⟩ := hin c hc
            exact .inr (Nat.le_of_lt (hpb h).1)
          · obtain ⟨h, rfl⟩ := hin c hc
            exact ⟨(hpb h).2, fun hs => by have := o3.sb _ hs; have := (hpb h).1; omega⟩
          · cases p.nl with
            | true => exact .nil
            | false => exact List.nodup_cons.2 ⟨by simp, .nil⟩
        have hx4 : Rep S3 wr bxT x [a, b] := Rep.move (fun _ h => h) (fun k hk => hsame k (o3.sb k hk)) hx3
        have o4 : Own S3 wr (cond p.nl [] [p.b]) := r4.own o3
        have c84 : Calls Try.prog 84 #[rowVal p] wr fun ev w' => ∃ v, ev = .returned v ∧ ∃ S' b1, Ran S3 wr (cond p.nl [] [p.b]) S' w' b1 ∧ ShX S' w' false (.own (.int .i64)) (isort leI ks) [rowVal p] b1 := by
          have hs : (if ks.length ≤ 1000 then some (isort leI ks) else none) = some (isort leI ks) := if_pos hkl
          refine (sort_ent.2 S3 wr [rowVal p] (ks, ()) (cond p.nl [] [p.b]) (isort leI ks) o4 ⟨rowVal p, [], cond p.nl [] [p.b], [], rfl, (List.append_nil _).symm, ⟨p, rfl, hrow.move (fun _ h => h.elim) (fun _ h => h.elim) (fun _ => rfl), rfl⟩, rfl, rfl⟩ hs).mono ?_
          intro ev w' he
          cases ev with
          | returned v =>
            obtain ⟨S', b1, b2, hr, h1, v1, rr, d1, d2, e1, rfl, h2, rfl, rfl⟩ := he
            have h1 : b1 = [] := h1
            subst h1
            obtain ⟨e1, -⟩ := List.cons.inj e1
            subst e1
            rw [List.nil_append, List.append_nil] at hr
            exact ⟨v, rfl, S', d1, hr, h2⟩
          | panicked c => exact he.elim
          | outgrown => exact he.elim
        go_wp2_with (go_at_call 84; refine c84.mono ?_; rintro ev w5 ⟨vv, rfl, S5, b5, r5, hsh⟩)
        go_ret2
        have hx5 : Rep S5 w5 bxT x [a, b] := Rep.move r5.sub (fun k hk => r5.still o4 k hk) hx4
        rw [hsrt] at hsh
        refine ⟨S5, b5 ++ [], [], ?_, ⟨_, rfl, _, _, b5, [], rfl, rfl, hsh, _, _, [], [], rfl, rfl, ⟨rfl, rfl⟩, rfl, rfl⟩, ⟨_, _, [], [], rfl, rfl, ⟨[a, b], rfl, hx5, rfl⟩, rfl, rfl⟩⟩
        rw [List.append_nil, List.append_nil]
        exact (((r1.trans r2).trans r3).trans r4).trans r5
      · obtain ⟨hem, hes⟩ := mem_left hen
        obtain ⟨n, hn⟩ := hall.2 en hem
        rw [hn] at hrun
        have hr4 : w4.heap[w3.heap.size]? = some (.mapIter (some bm) clock seen clock) := by rcases hw4 with rfl | rfl <;> exact hit
        have hm4 : w4.heap[bm]? = some (.map ents clock) := by rcases hw4 with rfl | rfl <;> exact hmr
        have hset : (ChangeMaps.setBlock w4 w3.heap.size (Obj.mapIter (some bm) clock (seen.push en.born) clock)).heap[w3.heap.size]? = some (Obj.mapIter (some bm) clock (seen.push en.born) clock) ∧ ∀ c, c ≠ w3.heap.size → (ChangeMaps.setBlock w4 w3.heap.size (Obj.mapIter (some bm) clock (seen.push en.born) clock)).heap[c]? = w4.heap[c]? := MapKept.heap_set hr4
        have h45 : w4.os = wr.os ∧ w4.tape = wr.tape ∧ OutOk wr w4 ∧ w4.heap = wr.heap := by rcases hw4 with rfl | rfl <;> first | exact ⟨rfl, rfl, ⟨rfl, Nat.le_refl _⟩, rfl⟩ | exact ⟨rfl, rfl, ⟨rfl, Nat.le_succ _⟩, rfl⟩
        obtain ⟨w5, hw5⟩ : ∃ w5, w5 = ChangeMaps.setBlock w4 w3.heap.size (Obj.mapIter (some bm) clock (seen.push en.born) clock) := ⟨_, rfl⟩
        have h5o : w5.os = wr.os ∧ w5.tape = wr.tape ∧ OutOk wr w5 ∧ w5.heap.size = wr.heap.size := by rw [hw5]; exact ⟨h45.1, h45.2.1, h45.2.2.1, by rw [← h45.2.2.2]; simp [ChangeMaps.setBlock]⟩
        rw [← hw5] at hrun hset
        have h5s : ∀ c, c ≠ w3.heap.size → w5.heap[c]? = wr.heap[c]? := fun c hc => by rw [← h45.2.2.2]; exact hset.2 c hc
        have hent := run_entry_at (P := Try.prog) w5 w3.heap.size bm clock seen ents clock en hset.1 ((h5s bm (by omega)).trans hmr) hem hst.2.1
        rw [hn] at hent
        have hnx : ∀ ty, (Instr.next (.pointer (some ⟨w3.heap.size, 0, none⟩)) false ty).run Try.prog wr = _ := fun _ => hrun
        clear hw5 hr4 hm4
        have h6a : ∀ c, c < w5.heap.size → (w5.alloc (Obj.cells #[Value.int IntKind.i64 n] 3)).heap[c]? = w5.heap[c]? := fun c hc => heap_alloc_old w5 _ hc
        have h6b : (w5.alloc (Obj.cells #[Value.int IntKind.i64 n] 3)).heap[wr.heap.size]? = some (Obj.cells #[Value.int IntKind.i64 n] 3) := by rw [← h5o.2.2.2]; exact heap_alloc_new w5 _
        have hkl : ks.length ≤ 1000 := by
          rw [hks.length_eq, List.length_map]
          refine Nat.le_trans (List.length_filter_le _ _) ?_
          have := congrArg List.length hall.1
          rw [List.length_map, List.length_map] at this
          omega
        obtain ⟨p', w7, hap, hrow', hnl', hpp, h7o, h7t, h7u, h7s, h7b, h7c⟩ := append_int (P := Try.prog) (T := ti) tiOk (L := mkLib ti [] [] 54 []) rfl (t := 23) (et := 3) rfl rfl rfl rfl 23 (hrow.move (fun _ h => h) (fun _ h => h.elim) (fun hn => (h6a _ (by rw [h5o.2.2.2]; exact (hpb hn).2)).trans (h5s _ (by have := (hpb hn).1; omega)))) h6b (fun hn => by have := (hpb hn).2; omega) (by omega) (fun k hk => by cases hk)
        have h6s : (w5.alloc (Obj.cells #[Value.int IntKind.i64 n] 3)).heap.size = wr.heap.size + 1 := by rw [← h5o.2.2.2]; exact World.size_alloc _ _
        have hkn : keyI en = n := by unfold keyI; rw [hn]
        have R : p'.nl = false ∧ RowAt (fun _ => False) w7 p' (.int .i64) (ks ++ [n]) ∧ (ks ++ [n]).Perm ((seenOf ents.toList (seen.push en.born)).map keyI) ∧ w7.heap[w3.heap.size]? = some (.mapIter (some bm) clock (seen.push en.born) clock) ∧ (p'.nl = false → w3.heap.size < p'.b ∧ p'.b < w7.heap.size) ∧
            w7.os = w3.os ∧ w7.tape = w3.tape ∧ OutOk w3 w7 ∧ w3.heap.size < w7.heap.size ∧ ∀ c, c < w3.heap.size → w7.heap[c]? = w3.heap[c]? := by
          refine ⟨hnl', hrow', ?_, ?_, fun _ => ⟨?_, h7b⟩, h7o.trans (h5o.1.trans hos), h7t.trans (h5o.2.1.trans htp), OutOk.trans h7u (OutOk.trans (w1 := wr) h5o.2.2.1 hout), by omega, fun c hc => ?_⟩
          · have hp := (seenOf_push seen en hes ents.toList hst.2.1 hem).map keyI
            rw [List.map_cons, hkn] at hp
            exact (List.perm_append_singleton n ks).trans ((hks.cons n).trans hp.symm)
          · rw [h7c w3.heap.size (by omega) (fun hn' => by have := (hpb hn').1; omega) (by omega), h6a _ (by omega)]
            exact hset.1
          · rcases hpp with ⟨g1, g2⟩ | g
            · have := (hpb g1).1; omega
            · omega
          · rw [h7c c (by omega) (fun hn' => by have := (hpb hn').1; omega) (by omega), h6a _ (by omega), h5s c (by omega)]
            exact hsame c hc
        have HAP : Aside _ := hap
        clear h6s h7c h7b h7s h7u h7t h7o hpp hkl h6a h6b hap
        go_wp2_with (at_builtin; refine wpList_app_run rfl _ _ 23 rfl rfl rfl HAP.out ?_)
        go_roundw
        case rel => exact ⟨p', ks ++ [n], seen.push en.born, rfl, R.2⟩
        case measure =>
          have e1 : w7.iterSeen w3.heap.size = seen.push en.born := by unfold World.iterSeen; rw [R.2.2.2.1]
          have e2 : wr.iterSeen w3.heap.size = seen := by unfold World.iterSeen; rw [hit]
          rw [e1, e2]
          exact left_shrinks ents seen en hen
  · have hy : some ([], e) = some y := by
      have : decide (e = 0) = false := decide_eq_false he
      rw [this] at hy
      exact hy
    cases hy
    go_enter Try.func54, Try.ntmps54
    go_wp2_with (go_at_call 30; refine c30.mono ?_; rintro ev w2 ⟨rfl, hca, hcb, S2, r2, hx2⟩)
    go_ret2
    refine ⟨S2, [], [], r1.trans r2, ⟨_, rfl, _, _, [], [], rfl, rfl, ⟨⟨0, 0, 0, 0, true⟩, rfl, ⟨rfl, .inl ⟨rfl, rfl, rfl⟩⟩, rfl⟩, _, _, [], [], rfl, rfl, ⟨rfl, rfl⟩, rfl, rfl⟩, ⟨_, _, [], [], rfl, rfl, ⟨[a, b], rfl, hx2, rfl⟩, rfl, rfl⟩⟩
end Go.Proofs.Ythdmngalhppkcaa
