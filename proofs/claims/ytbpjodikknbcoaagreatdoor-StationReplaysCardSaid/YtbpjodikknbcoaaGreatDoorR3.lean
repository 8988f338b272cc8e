/- The station's lock: what is done behind it, walked by hand. -/
import Derived.Test.YtbpjodikknbcoaaGreatDoorR2
import Derived.Conc.MuLone
import Derived.Tactics
import Derived.Tactics2
import Derived.Defers
import Derived.WalkKit
import Derived.Deep.MidRow
set_option maxRecDepth 100000
set_option linter.unusedVariables false
set_option linter.unusedSimpArgs false
namespace Go.Proofs.YtbpjodikknbcoaaGreatDoor
open Go Go.Pv Go.Shelf Go.RowKit Go.MuLone

abbrev muLink : Go.Conc.Locks.MuLink := { lock := 70, unlock := 71, ilock := 99, iunlock := 100, lockSlow := 127, unlockSlow := 130, disable := 123, enable := 125, acquire := 126, relMerge := 128, cas32 := 124, add32 := 129, tMutex := 107, tIMutex := 105, tPMutex := 140, tPIMutex := 162, tPI32 := 164, tUP := 166, tNoCopy := 102, tU32 := 103 }
theorem muLib : Go.Conc.Locks.MuLib Tryz.prog muLink :=
  ⟨Tryz.func70, Tryz.func71, Tryz.func99, Tryz.func100, Tryz.func123, Tryz.func125, Tryz.func126, Tryz.func128, Tryz.func124, Tryz.func129, Tryz.underlying105, Tryz.runUnderlying105, Tryz.sizeOf105, Tryz.isAgg105, Tryz.zeroValue105, Tryz.underlying107, Tryz.runUnderlying107, Tryz.sizeOf107, Tryz.isAgg107, Tryz.zeroValue107, Tryz.underlying140, Tryz.runUnderlying140, Tryz.sizeOf140, Tryz.isAgg140, Tryz.zeroValue140, Tryz.underlying162, Tryz.runUnderlying162, Tryz.sizeOf162, Tryz.isAgg162, Tryz.zeroValue162, Tryz.underlying164, Tryz.runUnderlying164, Tryz.sizeOf164, Tryz.isAgg164, Tryz.zeroValue164, Tryz.underlying166, Tryz.runUnderlying166, Tryz.sizeOf166, Tryz.isAgg166, Tryz.zeroValue166, Tryz.underlying102, Tryz.runUnderlying102, Tryz.sizeOf102, Tryz.isAgg102, Tryz.zeroValue102, Tryz.underlying21, Tryz.runUnderlying21, Tryz.sizeOf21, Tryz.isAgg21, Tryz.zeroValue21, (by kernel_rfl)⟩

/-! ### The reason of an error -/
theorem reason_nil (w : World) : Calls Tryz.prog 72 #[.nilIface] w fun e w' => e = .returned (.int .i64 0) ∧ Below w.heap.size w w' := by
  go_enter Tryz.func72, Tryz.ntmps72
  go_wp2_with (go_at_call 101; refine (as_nil _ _).mono ?_; rintro e w' ⟨rfl, rfl⟩)
  go_ret
  exact ⟨rfl, (Below.refl _ _).alloc (Nat.le_refl _) _⟩

theorem below_row {B g : Nat} {w0 w : World} (hb : Below B w0 w) (hg : B ≤ g) (cs : Array Value) : Below B w0 (w.setRow g cs) :=
  ⟨hb.os, hb.tape, hb.output, by rw [size_setRow]; exact hb.size, fun k hk => (setRow_other _ g k cs (by omega)).trans (hb.block k hk)⟩
theorem as_hit' (n : Int) (t : Nat) (w : World) (hg : w.cell? ⟨0, 0, none⟩ = some (.iface 197 (.agg #[.pointer (some ⟨7, 112, none⟩)]))) (ht : w.heap[t]? = some (.cells #[.int .i64 0] 142 (0, 0))) :
    Calls Tryz.prog 101 #[.iface 142 (.agg #[.int .i64 n]), .iface 144 (.pointer (some ⟨t, 0, none⟩))] w fun ev w' => ev = .returned (.bool true) ∧ w'.cell? ⟨t, 0, none⟩ = some (.int .i64 n) ∧ Below t w w' := by
  have htl : t < w.heap.size := by
    rcases Nat.lt_or_ge t w.heap.size with h | h
    · exact h
    · simp [Array.getElem?_eq_none h] at ht
  refine (as_hit n t _ rfl w hg ht).mono ?_
  rintro e w' ⟨rfl, rfl⟩
  have hb : Below w.heap.size w ((((w.alloc (.cells #[.pointer (some ⟨t, 0, none⟩)] 144)).alloc (.cells #[.pointer (some ⟨7, 144, none⟩), .pointer (some ⟨w.heap.size, 0, none⟩), .int .u64 150] 171)).alloc (.cells #[.pointer (some ⟨7, 144, none⟩), .pointer (some ⟨w.heap.size, 0, none⟩), .int .u64 150] 171)).alloc (.cells #[.int .i64 n] 142)) :=
    ((((Below.refl _ _).alloc (Nat.le_refl _) _).alloc (by simp) _).alloc (by simp; omega) _).alloc (by simp; omega) _
  refine ⟨rfl, ?_, below_row (hb.mono (Nat.le_of_lt htl)) (Nat.le_refl _) _⟩
  exact (cell_setRow_same _ t 0 #[.int .i64 0] #[.int .i64 n] 142 (0, 0) ((hb.block t htl).trans ht)).trans rfl

theorem reason_hit (n : Int) (w : World) (hg : w.cell? ⟨0, 0, none⟩ = some (.iface 197 (.agg #[.pointer (some ⟨7, 112, none⟩)]))) :
    Calls Tryz.prog 72 #[.iface 142 (.agg #[.int .i64 n])] w fun e w' => e = .returned (.int .i64 n) ∧ Below w.heap.size w w' := by
  have hlt : 0 < w.heap.size := by
    rcases Nat.eq_zero_or_pos w.heap.size with h0 | h
    · simp [World.cell?, h0] at hg
    · exact h
  have hg2 : (w.alloc (.cells #[.int .i64 0] 142)).cell? ⟨0, 0, none⟩ = some (.iface 197 (.agg #[.pointer (some ⟨7, 112, none⟩)])) := by
    rw [World.cell?_alloc_lt _ _ ⟨0, 0, none⟩ hlt]; exact hg
  have ht : (w.alloc (.cells #[.int .i64 0] 142)).heap[w.heap.size]? = some (.cells #[.int .i64 0] 142 (0, 0)) := by
    simp only [World.alloc]; rw [Array.getElem?_push]; simp
  go_enter Tryz.func72, Tryz.ntmps72
  go_wp2_with (go_at_call 101; refine (as_hit' n w.heap.size _ hg2 ht).mono ?_; rintro e w' ⟨rfl, hW, hB⟩)
  go_ret
  exact ⟨rfl, ((Below.refl _ w).alloc (Nat.le_refl _) _).trans hB⟩

/-! ### The station in memory -/
abbrev stT : Ty := .pr (.int .i64) (.pr (.bool) (.pr (.int .i64) (.pr (.int .i64) (.pr (.int .i64) (.pr (.int .i64) (.pr (.int .i64) (.pr (.int .i64) (.pr (.int .i64) (.pr (.int .i64) (.pr (.int .i64) (.pr (.int .i64) (.sl (.str)))))))))))))
abbrev stnT : Ty := .pr (.pr (.int .i32) (.int .u32)) (.pr (.sl (.int .i64)) (.pr (.sl (.int .i64)) (.pr (.pr (.sl (.arr 2 (.int .i64))) (.sl (.int .i64))) stT)))

theorem stn_head {S : Nat → Prop} {w : World} {x : stnT.den} {cs : List Value} (h : Rep S w stnT x cs) : ∃ r, cs = .int .i32 x.1.1 :: r ∧ ∀ v : Int, Rep S w stnT ((v, x.1.2), x.2) (.int .i32 v :: r) := by
  obtain ⟨c, r, rfl, ⟨ca, cb, rfl, hA, hB⟩, h2⟩ := h
  have hA : ca = [.int .i32 x.1.1] := hA
  subst hA
  exact ⟨cb ++ r, rfl, fun v => ⟨.int .i32 v :: cb, r, rfl, ⟨[.int .i32 v], cb, rfl, rfl, hB⟩, h2⟩⟩
theorem stn_state {S : Nat → Prop} {w : World} {x : stnT.den} {cs : List Value} (h : Rep S w stnT x cs) : ∃ a rs, cs = a ++ rs ∧ a.length = 6 ∧ Rep S w stT x.2.2.2.2 rs := by
  obtain ⟨c, r, rfl, h1, c2, r2, rfl, h2, c3, r3, rfl, h3, c4, r4, rfl, h4, h5⟩ := h
  refine ⟨c ++ (c2 ++ (c3 ++ c4)), r4, by simp, ?_, h5⟩
  have l1 := Rep.length h1; have l2 := Rep.length h2; have l3 := Rep.length h3; have l4 := Rep.length h4
  simp only [List.length_append, l1, l2, l3, l4]
  rfl
theorem set_own {S : Nat → Prop} {w : World} {bs : List Nat} (ho : Own S w bs) {b : Nat} (hb : b ∈ bs) (v : Value) : Ran S w bs S (w.setCell ⟨b, 0, none⟩ v) bs :=
  ⟨rfl, rfl, ⟨rfl, Nat.le_refl _⟩, by simp, fun k hk hn => heap_setCell_other _ _ _ _ (fun e => hn (e ▸ hb)), fun _ h => h, fun _ h => .inl h, fun _ h => .inl h,
   fun k hk => ⟨by simpa using (ho.old k hk).1, (ho.old k hk).2⟩, ho.nd, fun k hk => by simpa using ho.sb k hk⟩

set_option maxHeartbeats 2000000 in
theorem do_ent {fn : (Fs.ty [(.box (.dat stnT), true), (.dat .str, false)]).den → Option (Int × stnT.den)}
    (hd : EntOk Tryz.prog 73 ⟨[(.box (.dat stnT), true), (.dat .str, false)], .dat .err, Int × stnT.den, fn, fun _ y => (y.1, (y.2, ())), false⟩) :
    EntOk Tryz.prog 31 ⟨[(.box (.dat stnT), true), (.dat .str, false)], .dat (.int .i64), Int × stnT.den, fun x => if (x.1.1.1 : Int) = 0 then ob (fn (((1, x.1.1.2), x.1.2), x.2.1, ())) fun y => (if 0 ≤ y.1 ∧ (y.2.1.1 : Int) = 1 then some (y.1, ((0, y.2.1.2), y.2.2)) else none) else none, fun _ y => (y.1, (y.2, ())), false⟩ := by
  refine ⟨⟨_, _, Tryz.func31, rfl, by kernel_rfl⟩, ?_⟩
  rintro S w vs ⟨x, s, u⟩ bs y ho ⟨v, r, b1, b2, rfl, rfl, hx, v2, r2, b3, b4, rfl, rfl, ⟨hs, rfl⟩, rfl, rfl⟩ hy
  obtain ⟨b, cs, ty, bs', hv, hh, ⟨hrep, rfl⟩, rfl⟩ : ∃ b cs' ty bs', [v] = [.pointer (some ⟨b, 0, none⟩)] ∧ w.heap[b]? = some (.cells (List.toArray cs') ty (0, 0)) ∧ (Rep S w stnT x cs' ∧ bs' = []) ∧ b1 = b :: bs' := hx
  cases hv
  have hs : [v2] = [Value.string s] := hs
  cases hs
  have hy : (if (x.1.1 : Int) = 0 then ob (fn (((1, x.1.2), x.2), s, ())) fun y => (if 0 ≤ y.1 ∧ (y.2.1.1 : Int) = 1 then some (y.1, ((0, y.2.1.2), y.2.2)) else none) else none) = some y := hy
  split at hy
  · rename_i hx0
    cases hf : fn (((1, x.1.2), x.2), s, ()) with
    | none => rw [hf] at hy; cases hy
    | some z =>
      rw [hf] at hy
      have hy : (if 0 ≤ z.1 ∧ (z.2.1.1 : Int) = 1 then some (z.1, ((0, z.2.1.2), z.2.2)) else none) = some y := hy
      obtain ⟨⟨hz1, hz2⟩, rfl⟩ := ob_if hy
      obtain ⟨r, rfl, hr⟩ := stn_head hrep
      rw [hx0] at hh
      have ho : Own S w [b] := ho
      have hb : b ∈ [b] := List.mem_singleton.2 rfl
      have hc0 : w.cell? ⟨b, 0, none⟩ = some (.int .i32 0) := by simp [World.cell?, hh]
      have hz0 : w.frozen? ⟨b, 0, none⟩ = false := by simp [World.frozen?, hh]
      have r1 := set_own ho hb (.int .i32 1)
      have o1 := r1.own ho
      have hh1 : (w.setCell ⟨b, 0, none⟩ (.int .i32 1)).heap[b]? = some (.cells (.int .i32 1 :: r).toArray ty (0, 0)) := heap_setCell_same w b 0 _ ty _ hh
      have mv : ∀ k, S k → (w.setCell ⟨b, 0, none⟩ (.int .i32 1)).heap[k]? = w.heap[k]? := r1.still ho
      have call := hd.2 S (w.setCell ⟨b, 0, none⟩ (.int .i32 1)) [.pointer (some ⟨b, 0, none⟩), .string s] (((1, x.1.2), x.2), s, ()) [b] z o1
        ⟨_, _, [b], [], rfl, rfl, ⟨b, _, ty, [], rfl, hh1, ⟨Rep.move (fun _ h => h) mv (hr 1), rfl⟩, rfl⟩, _, _, [], [], rfl, rfl, ⟨rfl, rfl⟩, rfl, rfl⟩ hf
      have call2 : Calls Tryz.prog 73 #[.pointer (some ⟨b, 0, none⟩), .string s] (w.setCell ⟨b, 0, none⟩ (.int .i32 1)) fun e w' => ∃ ev S' cs' ty', e = .returned ev ∧ Rep S' w' .err z.1 [ev] ∧ Ran S (w.setCell ⟨b, 0, none⟩ (.int .i32 1)) [b] S' w' [b] ∧ w'.heap[b]? = some (.cells (List.toArray cs') ty' (0, 0)) ∧ Rep S' w' stnT z.2 cs' := by
        refine call.mono ?_
        intro e w' he
        cases e with
        | returned ev =>
          obtain ⟨S', c1, c2, hr, ⟨h1, rfl⟩, v3, r3, c3, c4, e1, rfl, h3, v4, r4, c5, c6, rfl, rfl, ⟨h4, rfl⟩, rfl, rfl⟩ := he
          obtain ⟨b', cs', ty', bs', hv, hh', ⟨hrep', rfl⟩, rfl⟩ : ∃ b cs' ty bs', [v3] = [.pointer (some ⟨b, 0, none⟩)] ∧ w'.heap[b]? = some (.cells (List.toArray cs') ty (0, 0)) ∧ (Rep S' w' stnT z.2 cs' ∧ bs' = []) ∧ c3 = b :: bs' := h3
          cases hv
          cases e1
          exact ⟨ev, S', cs', ty', rfl, h1, hr, hh', hrep'⟩
        | panicked c => exact he.elim
        | outgrown => exact he.elim
      have hreason : ∀ (ev : Value) (S' : Nat → Prop) (w' : World), Rep S' w' .err z.1 [ev] → Gl S' w' → Calls Tryz.prog 72 #[ev] w' fun e w'' => e = .returned (.int .i64 z.1) ∧ Below w'.heap.size w' w'' := by
        intro ev S' w' h1 hg
        rcases h1 with ⟨h0, h1⟩ | ⟨h0, h1⟩ | ⟨h0, h1⟩
        · cases h1
          rw [h0]
          exact reason_nil w'
        · cases h1
          exact reason_hit _ w' (gl_rtype hg)
        · exact absurd (show (z.1 : Int) < 0 from h0) (Int.not_lt.2 hz1)
      go_enter_defers Tryz.func31, Tryz.ntmps31
      go_wp2_with (first | (go_at_call 70; refine (lock_free muLib ⟨b, 0, none⟩ _ hc0 hz0).mono ?_; rintro e w' ⟨rfl, rfl⟩) | (go_at_call 73; refine call2.mono ?_; rintro e w' ⟨ev, S', cs', ty', rfl, he, hr1, hh', hrep'⟩) | (go_at_call 72; refine (hreason _ _ _ he (hr1.own o1).gl).mono ?_; rintro e w'' ⟨rfl, hB⟩))
      have o2 := hr1.own o1
      have r2 := ran_below o2 hB
      obtain ⟨r', rfl, hr'⟩ := stn_head hrep'
      rw [hz2] at hh'
      have hh2 : w''.heap[b]? = some (.cells (.int .i32 1 :: r').toArray ty' (0, 0)) := (hB.block b (o2.old b hb).1).trans hh'
      have hc1 : w''.cell? ⟨b, 0, none⟩ = some (.int .i32 1) := by simp [World.cell?, hh2]
      have hz1 : w''.frozen? ⟨b, 0, none⟩ = false := by simp [World.frozen?, hh2]
      have o3 := r2.own o2
      have r3 := set_own o3 hb (.int .i32 0)
      have hh3 : (w''.setCell ⟨b, 0, none⟩ (.int .i32 0)).heap[b]? = some (.cells (.int .i32 0 :: r').toArray ty' (0, 0)) := heap_setCell_same w'' b 0 _ ty' _ hh2
      refine leaves_cons (f := 71) (args := #[.pointer (some ⟨b, 0, none⟩)]) (by simp) (by simp [go_sem]) ?_
      refine (unlock_deferred muLib ⟨b, 0, none⟩ .returning _ hc1 hz1).mono ?_
      rintro e u' w3 ⟨rfl, rfl, rfl⟩
      refine ⟨_, results_tmp rfl _ _ _, ?_⟩
      refine ⟨S', [], [b], ((r1.trans hr1).trans r2).trans r3, ⟨rfl, rfl⟩, _, _, [b], [], rfl, rfl, ⟨b, _, ty', [], rfl, hh3, ⟨?_, rfl⟩, rfl⟩, _, _, [], [], rfl, rfl, ⟨rfl, rfl⟩, rfl, rfl⟩
      exact Rep.move (fun _ h => h) (fun k hk => ((r2.trans r3).still o2) k hk) (hr' 0)
  · cases hy

theorem do_nil : EntOk Tryz.prog 31 ⟨[(.dat .np, false), (.dat .str, false)], .dat (.int .i64), Int, fun x => some 1, fun _ y => (y, ()), false⟩ := by
  refine ⟨⟨_, _, Tryz.func31, rfl, by kernel_rfl⟩, ?_⟩
  rintro S w vs ⟨x, s, u⟩ bs y ho ⟨v, r, b1, b2, rfl, rfl, ⟨hx, rfl⟩, v2, r2, b3, b4, rfl, rfl, ⟨hs, rfl⟩, rfl, rfl⟩ hy
  have hx : [v] = [.pointer none] := hx
  cases hx
  have hs : [v2] = [Value.string s] := hs
  cases hs
  cases hy
  go_enter_defers Tryz.func31, Tryz.ntmps31
  go_wp2
  refine ⟨_, results_tmp rfl _ _ _, ?_⟩
  exact ⟨S, [], [], ho.refl, ⟨rfl, rfl⟩, _, _, [], [], rfl, rfl, ⟨rfl, rfl⟩, _, _, [], [], rfl, rfl, ⟨rfl, rfl⟩, rfl, rfl⟩

theorem results_cell {fn : Func} {c ty : Nat} {a : Addr} {tmps : Array Value} (h : fn.results = #[.cell c ty]) (hp : tmps[c]?.getD undef = .pointer (some a)) (P : Program) (w : World) :
    (results fn tmps).run P w = (loadVar ty a).run P w := by
  simp [results, h, hp, asAddr, Result.andThen]
theorem load98 (g : Nat) (w : World) (cs : List Value) (hl : cs.length = 13) (hg : w.heap[g]? = some (.cells cs.toArray 98 (0, 0))) : (loadVar 98 ⟨g, 0, none⟩).run Tryz.prog w = .ok (.agg cs.toArray) w :=
  run_loadVar_row w g 98 98 cs.toArray (0, 0) _ hg Tryz.underlying98 rfl (by rw [List.size_toArray, hl]; kernel_rfl)

theorem look_nil : EntOk Tryz.prog 68 ⟨[(.dat .np, false)], .dat stT, stT.den, fun x => some (Ty.dflt stT), fun _ y => (y, ()), false⟩ := by
  refine ⟨⟨_, _, Tryz.func68, rfl, by kernel_rfl⟩, ?_⟩
  rintro S w vs ⟨x, u⟩ bs y ho ⟨v, r, b1, b2, rfl, rfl, ⟨hx, rfl⟩, rfl, rfl⟩ hy
  have hx : [v] = [.pointer none] := hx
  cases hx
  cases hy
  go_enter_defers Tryz.func68, Tryz.ntmps68
  go_wp2
  have hh : (w.alloc (Obj.cells #[.int .i64 0, .bool false, .int .i64 0, .int .i64 0, .int .i64 0, .int .i64 0, .int .i64 0, .int .i64 0, .int .i64 0, .int .i64 0, .int .i64 0, .int .i64 0, .slice none 0 0] 98)).heap[w.heap.size]? = some (.cells [.int .i64 0, .bool false, .int .i64 0, .int .i64 0, .int .i64 0, .int .i64 0, .int .i64 0, .int .i64 0, .int .i64 0, .int .i64 0, .int .i64 0, .int .i64 0, .slice none 0 0].toArray 98 (0, 0)) := by
    simp only [World.alloc]; rw [Array.getElem?_push]; simp
  have hl := load98 w.heap.size _ _ rfl hh
  refine ⟨_, (results_cell rfl rfl _ _).trans hl, ?_⟩
  refine ⟨S, [], [], ran_below ho ((Below.refl _ _).alloc (Nat.le_refl _) _), ⟨_, rfl, ?_, rfl⟩, _, _, [], [], rfl, rfl, ⟨rfl, rfl⟩, rfl, rfl⟩
  exact Ty.zc_ok stT

theorem one_Rep {S : Nat → Prop} {w : World} : ∀ {t : Ty} {x : t.den} {cs : List Value}, Rep S w t x cs → ∀ v ∈ cs, v.oneCell' = true := by
  intro t x cs h
  exact Rep.one h

/-- A row's cells, under a name that the walk does not open. -/
def cellsB (a : Addr) (n : Nat) : Sem (Array Value) := loadCells a n
theorem cells_hide (a : Addr) (n : Nat) : loadCells a n = cellsB a n := rfl
section
attribute [local go_sem ↓] cells_hide
set_option maxHeartbeats 2000000 in
theorem look_ent : EntOk Tryz.prog 68 ⟨[(.box (.dat stnT), false)], .dat stT, stT.den, fun x => if (x.1.1.1 : Int) = 0 then some x.1.2.2.2.2 else none, fun _ y => (y, ()), false⟩ := by
  refine ⟨⟨_, _, Tryz.func68, rfl, by kernel_rfl⟩, ?_⟩
  rintro S w vs ⟨x, u⟩ bs y ho ⟨v, r, b1, b2, rfl, rfl, hx, rfl, rfl⟩ hy
  obtain ⟨b, cs, ty, bs', hv, hh, ⟨hrep, rfl⟩, rfl⟩ : ∃ b cs' ty bs', [v] = [.pointer (some ⟨b, 0, none⟩)] ∧ w.heap[b]? = some (.cells (List.toArray cs') ty (0, 0)) ∧ (Rep S w stnT x cs' ∧ bs' = []) ∧ b1 = b :: bs' := hx
  cases hv
  obtain ⟨hx0, rfl⟩ := ob_if hy
  have hx0 : (x.1.1 : Int) = 0 := hx0
  obtain ⟨r, rfl, hr⟩ := stn_head hrep
  obtain ⟨a, rs, hcs, ha, hrs⟩ := stn_state hrep
  rw [hx0] at hh hcs
  have hlen : rs.length = 13 := Rep.length hrs
  have ho : Own S w [b] := ho
  have hbl : b < w.heap.size := (ho.old b (List.mem_singleton.2 rfl)).1
  have hne : b ≠ w.heap.size := Nat.ne_of_lt hbl
  obtain ⟨a', rfl⟩ : ∃ a', a = .int .i32 0 :: a' := by
    cases a with
    | nil => simp at ha
    | cons q a' => simp only [List.cons_append, List.cons.injEq] at hcs; exact ⟨a', by rw [← hcs.1]⟩
  have hr' : r = a' ++ rs := by simpa using hcs
  subst hr'
  have ha' : a'.length = 5 := by simpa using ha
  have z98 : ∀ w, (zeroValue 98).run Tryz.prog w = .ok (.agg #[.int .i64 0, .bool false, .int .i64 0, .int .i64 0, .int .i64 0, .int .i64 0, .int .i64 0, .int .i64 0, .int .i64 0, .int .i64 0, .int .i64 0, .int .i64 0, .slice none 0 0]) w := Tryz.zeroValue98
  -- the worlds: the result's cells laid, the lock taken, the state read, the lock let go
  obtain ⟨W0, e0⟩ : ∃ W0, W0 = w.alloc (.cells #[.int .i64 0, .bool false, .int .i64 0, .int .i64 0, .int .i64 0, .int .i64 0, .int .i64 0, .int .i64 0, .int .i64 0, .int .i64 0, .int .i64 0, .int .i64 0, .slice none 0 0] 98) := ⟨_, rfl⟩
  have b0 : Below w.heap.size w W0 := by rw [e0]; exact (Below.refl _ _).alloc (Nat.le_refl _) _
  have g0 : W0.heap[w.heap.size]? = some (.cells #[.int .i64 0, .bool false, .int .i64 0, .int .i64 0, .int .i64 0, .int .i64 0, .int .i64 0, .int .i64 0, .int .i64 0, .int .i64 0, .int .i64 0, .int .i64 0, .slice none 0 0] 98 (0, 0)) := by
    rw [e0]; simp only [World.alloc]; rw [Array.getElem?_push]; simp
  have h0 := (b0.block b hbl).trans hh
  have hc0 : W0.cell? ⟨b, 0, none⟩ = some (.int .i32 0) := by simp [World.cell?, h0]
  have hz0 : W0.frozen? ⟨b, 0, none⟩ = false := by simp [World.frozen?, h0]
  obtain ⟨W1, e1⟩ : ∃ W1, W1 = W0.setCell ⟨b, 0, none⟩ (.int .i32 1) := ⟨_, rfl⟩
  have h1 : W1.heap[b]? = some (.cells (.int .i32 1 :: (a' ++ rs)).toArray ty (0, 0)) := by rw [e1]; exact heap_setCell_same W0 b 0 _ ty _ h0
  have g1 : W1.heap[w.heap.size]? = some (.cells #[.int .i64 0, .bool false, .int .i64 0, .int .i64 0, .int .i64 0, .int .i64 0, .int .i64 0, .int .i64 0, .int .i64 0, .int .i64 0, .int .i64 0, .int .i64 0, .slice none 0 0] 98 (0, 0)) := by rw [e1]; exact (heap_setCell_other W0 ⟨b, 0, none⟩ w.heap.size _ (Ne.symm hne)).trans g0
  have hr1 : W1.rangeAt b 6 rs := by
    intro j v hv
    simp only [World.cell?, h1]
    have : (Value.int .i32 1 :: (a' ++ rs))[6 + j]? = some v := by
      rw [show 6 + j = (5 + j) + 1 from by omega, List.getElem?_cons_succ, List.getElem?_append_right (by omega), ha', Nat.add_sub_cancel_left]
      exact hv
    simpa using this
  have l1 : (loadVar 98 ⟨b, 6, none⟩).run Tryz.prog W1 = .ok (.agg rs.toArray) W1 := run_loadVar_mid W1 b 6 98 rs _ hr1 Tryz.underlying98 rfl (by rw [hlen]; kernel_rfl)
  have s1 : (storeVar 98 ⟨w.heap.size, 0, none⟩ (.agg rs.toArray)).run Tryz.prog W1 = .ok () (W1.setRow w.heap.size rs.toArray) :=
    run_storeVar_row (P := Tryz.prog) W1 w.heap.size 98 98 _ rs.toArray g1 (by rw [List.size_toArray, hlen]; kernel_rfl) (by rw [List.size_toArray, List.size_toArray, hlen]; rfl) (by
      rw [Array.all_eq_true_iff_forall_mem]; intro v hv; exact Rep.one hrs v (by simpa using hv))
  obtain ⟨W2, e2⟩ : ∃ W2, W2 = W1.setRow w.heap.size rs.toArray := ⟨_, rfl⟩
  have h2 : W2.heap[b]? = some (.cells (.int .i32 1 :: (a' ++ rs)).toArray ty (0, 0)) := by rw [e2]; exact (setRow_other W1 _ b _ hne).trans h1
  have g2 : W2.heap[w.heap.size]? = some (.cells rs.toArray 98 (0, 0)) := by rw [e2]; exact setRow_heap W1 _ _ _ 98 (0, 0) g1
  have hc2 : W2.cell? ⟨b, 0, none⟩ = some (.int .i32 1) := by simp [World.cell?, h2]
  have hz2 : W2.frozen? ⟨b, 0, none⟩ = false := by simp [World.frozen?, h2]
  obtain ⟨W3, e3⟩ : ∃ W3, W3 = W2.setCell ⟨b, 0, none⟩ (.int .i32 0) := ⟨_, rfl⟩
  have h3 : W3.heap[b]? = w.heap[b]? := by rw [e3, hh]; exact heap_setCell_same W2 b 0 _ ty _ h2
  have g3 : W3.heap[w.heap.size]? = some (.cells rs.toArray 98 (0, 0)) := by rw [e3]; exact (heap_setCell_other W2 ⟨b, 0, none⟩ w.heap.size _ (Ne.symm hne)).trans g2
  have b3 : Below w.heap.size w W3 := by
    refine ⟨?_, ?_, ?_, ?_, fun k hk => ?_⟩
    · rw [e3, e2, e1]; exact b0.os
    · rw [e3, e2, e1]; exact b0.tape
    · rw [e3, e2, e1]; exact b0.output
    · rw [e3, e2, e1]; simpa using b0.size
    · by_cases hk2 : k = b
      · rw [hk2]; exact h3
      · rw [e3, heap_setCell_other _ _ _ _ hk2, e2, setRow_other _ _ _ _ (Nat.ne_of_lt hk), e1, heap_setCell_other _ _ _ _ hk2]
        exact b0.block k hk
  have l3 := load98 w.heap.size W3 rs hlen g3
  have n1 : W1 = (w.setCell ⟨b, 0, none⟩ (.int .i32 1)).alloc (.cells #[.int .i64 0, .bool false, .int .i64 0, .int .i64 0, .int .i64 0, .int .i64 0, .int .i64 0, .int .i64 0, .int .i64 0, .int .i64 0, .int .i64 0, .int .i64 0, .slice none 0 0] 98) := by
    rw [e1, e0]; simp [go_sem, hbl]
  have q1 : (cellsB ⟨b, 6, none⟩ 13).run Tryz.prog W1 = .ok rs.toArray W1 := by
    rw [← cells_hide, ← hlen]; exact run_loadCells_list (P := Tryz.prog) W1 ⟨b, 6, none⟩ rs (fun j v hv => by rw [Addr.add_mid]; exact hr1 j v hv)
  have q2 : (storeCells ⟨w.heap.size, 0, none⟩ rs).run Tryz.prog W1 = .ok () W2 := by
    have := run_storeCells_from (P := Tryz.prog) w.heap.size 98 rs 0 _ W1 g1 (by rw [hlen]; decide) (fun v hv => Rep.one hrs v hv)
    rw [e2]
    simpa using this
  rw [n1] at q1 q2
  go_enter_defers Tryz.func68, Tryz.ntmps68
  go_wp2_with (go_at_call 70; rw [← e0]; refine (lock_free muLib ⟨b, 0, none⟩ _ hc0 hz0).mono ?_; rintro e w' ⟨rfl, rfl⟩; rw [← e1])
  refine leaves_cons (f := 71) (args := #[.pointer (some ⟨b, 0, none⟩)]) (by simp) (by simp [go_sem]) ?_
  rw [← n1, ← e2]
  refine (unlock_deferred muLib ⟨b, 0, none⟩ .returning _ hc2 hz2).mono ?_
  rintro e u' w3 ⟨rfl, rfl, rfl⟩
  rw [← e3]
  refine ⟨_, (results_cell rfl rfl _ _).trans l3, ?_⟩
  exact ⟨S, [], [b], ran_below ho b3, ⟨_, rfl, Rep.move (fun _ h => h) (fun k hk => b3.block k (ho.sb k hk)) hrs, rfl⟩, _, _, [b], [], rfl, rfl, ⟨b, _, ty, [], rfl, h3.trans hh, ⟨by have := Rep.move (fun _ h => h) (fun k hk => b3.block k (ho.sb k hk)) hrep; rw [hx0] at this; exact this, rfl⟩, rfl⟩, rfl, rfl⟩
end
end Go.Proofs.YtbpjodikknbcoaaGreatDoor
