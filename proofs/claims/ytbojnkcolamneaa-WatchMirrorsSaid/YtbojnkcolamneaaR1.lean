/- The loops over functions of this layer: that they compute it. -/
import Derived.Test.YtbojnkcolamneaaR0
import Derived.Shelf.Abstract
import Derived.WalkKit
import Derived.OwnWalkIn
import Derived.TacticsInMore
import Derived.LoopNIn
import Derived.LoopIn
namespace Go.Proofs.Ytbojnkcolamneaa
open Go Go.Pv Go.RowKit Go.Shelf
attribute [local go_sem] Oper.semAt_some

set_option maxRecDepth 100000 in
set_option maxHeartbeats 2000000 in
theorem runs_in (F : Fence) (n : Nat) (h88 : F.fn 88) (hro : F.round = none) (a b c m : Int) (w : World) :
    CallsIn F n Try.prog 88 #[.agg #[.int .i64 a, .int .i64 b, .int .i64 c], .int .i64 m] w fun e W' => e = .returned (.bool (runsB (a, b, c) m)) ∧ W' = w.alloc (.cells #[.int .i64 a, .int .i64 b, .int .i64 c] 49) := by
  refine callsIn_of_wp Try.func88 rfl h88 ?_ hro
  simp only [Try.ntmps88, List.size_toArray, List.length_cons, List.length_nil, Nat.reduceAdd, Nat.reduceSub, Array.replicate_succ, Array.replicate_zero, List.push_toArray, List.append_toArray, List.nil_append, List.cons_append]
  gi_wp2
  · have h : a ≤ m := by assumption
    go_ret
    exact ⟨by simp [runsB, h], rfl⟩
  · have h : m < a := by assumption
    go_ret
    exact ⟨by simp [runsB]; omega, rfl⟩

theorem atN_len (xs : List (Int × Int × Int)) (m : Int) : ∀ k, (atN xs m k).length ≤ k
  | 0 => Nat.le_refl _
  | k + 1 => by
    have := atN_len xs m k
    rw [atN]
    split
    · simp; omega
    · omega
theorem atN_yes {xs : List (Int × Int × Int)} {m : Int} {k : Nat} (h : runsB (xs.getD k (0, 0, 0)) m = true) : atN xs m (k + 1) = atN xs m k ++ [(k : Int)] := by rw [atN, if_pos h]
theorem atN_no {xs : List (Int × Int × Int)} {m : Int} {k : Nat} (h : runsB (xs.getD k (0, 0, 0)) m = false) : atN xs m (k + 1) = atN xs m k := by rw [atN, if_neg (by rw [h]; exact Bool.false_ne_true)]
def SameS (a b : Int × Int × Int) : Prop := a = b
theorem cell_heap {W W' : World} {p : Addr} (h : W'.heap[p.block]? = W.heap[p.block]?) : W'.cell? p = W.cell? p := by unfold World.cell?; rw [h]

set_option maxRecDepth 100000 in
set_option maxHeartbeats 2000000 in
theorem at1_in (F : Fence) (n : Nat) (h96 : F.fn 96) (h88 : F.fn 88) (hro : F.round = none) (hn : 1 ≤ n) (S : Nat → Prop) (l Bs Os Bm Om cap : Nat) (A : Option Addr) (b off : Nat) (m : Int) (xs : List (Int × Int × Int)) (hreach : xs.length ≤ 1000)
    (hSs : S Bs) (hSm : S Bm) (hA : 0 < xs.length → A = some ⟨b, off, none⟩ ∧ S b) (w0 : World) (J : List Int → World → Prop) (hS : ∀ b, S b → b < w0.heap.size)
    (hJS : ∀ s W, J s W → w0.heap.size ≤ W.heap.size ∧ ∀ b, S b → W.heap[b]? = w0.heap[b]?) (hJ : ∀ s A A', J s A → A.grownBy A' none → A.drawn ≤ A'.drawn → J s A')
    (hY : ∀ pre x W, J pre W → pre.length < 1000 → YieldAt F (n - 1) Try.prog l #[.int .i64 x] W fun e W' => e = .returned (.bool true) ∧ J (pre ++ [x]) W')
    (W : World) (hBs : w0.cell? ⟨Bs, Os, none⟩ = some (.slice A xs.length cap)) (hBm : w0.cell? ⟨Bm, Om, none⟩ = some (.int .i64 m))
    (hc : ∀ j, j < xs.length → w0.cell? ⟨b, off + j * 3, none⟩ = some (.int .i64 (xs.getD j (0, 0, 0)).1) ∧ w0.cell? ⟨b, off + j * 3 + 1, none⟩ = some (.int .i64 (xs.getD j (0, 0, 0)).2.1) ∧ w0.cell? ⟨b, off + j * 3 + 2, none⟩ = some (.int .i64 (xs.getD j (0, 0, 0)).2.2)) (h0 : J [] W) :
    CallsIn F n Try.prog 96 #[.func (.yield l) #[] #[], .pointer (some ⟨Bs, Os, none⟩), .pointer (some ⟨Bm, Om, none⟩)] W fun e W' => (∃ v, e = .returned v) ∧ J (atN xs m xs.length) W' := by
  refine callsIn_of_wp Try.func96 rfl h96 ?_ hro
  simp only [Try.ntmps96, List.size_toArray, List.length_cons, List.length_nil, Nat.reduceAdd, Nat.reduceSub, Array.replicate_succ, Array.replicate_zero, List.push_toArray, List.append_toArray, List.nil_append, List.cons_append]
  have hBsW : W.cell? ⟨Bs, Os, none⟩ = some (.slice A xs.length cap) := (cell_heap (p := ⟨Bs, Os, none⟩) ((hJS _ _ h0).2 Bs hSs)).trans hBs
  gi_wp2
  gi_loopw [8] (fun i wr => ∃ k : Nat, k ≤ xs.length ∧ i = .int .i64 k ∧ J (atN xs m k) wr)
    (fun i _ => xs.length - (intOf i).toNat)
  case atStart => exact ⟨0, Nat.zero_le _, rfl, h0⟩
  case round =>
    obtain ⟨k, hk, rfl, hJs⟩ := hrel
    have hSw : ∀ b, S b → b < wr.heap.size := fun b hb => Nat.lt_of_lt_of_le (hS b hb) (hJS _ _ hJs).1
    have hnx : ∀ b, S b → wr.heap[b]? = w0.heap[b]? := (hJS _ _ hJs).2
    have hBm' : wr.cell? ⟨Bm, Om, none⟩ = some (.int .i64 m) := (cell_heap (p := ⟨Bm, Om, none⟩) (hnx Bm hSm)).trans hBm
    by_cases hlt : k < xs.length
    · obtain ⟨rfl, hSb⟩ := hA (by omega)
      obtain ⟨s0, s1, s2, hs, c0, c1, c2⟩ : ∃ s0 s1 s2, SameS (xs.getD k (0, 0, 0)) (s0, s1, s2) ∧ w0.cell? ⟨b, off + k * 3, none⟩ = some (.int .i64 s0) ∧ w0.cell? ⟨b, off + k * 3 + 1, none⟩ = some (.int .i64 s1) ∧ w0.cell? ⟨b, off + k * 3 + 2, none⟩ = some (.int .i64 s2) :=
        ⟨_, _, _, rfl, hc k hlt⟩
      have c0' := (cell_heap (p := ⟨b, off + k * 3, none⟩) (hnx b hSb)).trans c0
      have c1' := (cell_heap (p := ⟨b, off + k * 3 + 1, none⟩) (hnx b hSb)).trans c1
      have c2' := (cell_heap (p := ⟨b, off + k * 3 + 2, none⟩) (hnx b hSb)).trans c2
      have hBm2 : (wr.alloc (.cells #[.int .i64 s0, .int .i64 s1, .int .i64 s2] 49)).cell? ⟨Bm, Om, none⟩ = some (.int .i64 m) := (cell_heap (p := ⟨Bm, Om, none⟩) (Below.heap_alloc wr _ Bm (hSw Bm hSm))).trans hBm'
      clear hc
      obtain ⟨W2, hW2⟩ : ∃ W2, (wr.alloc (.cells #[.int .i64 s0, .int .i64 s1, .int .i64 s2] 49)).alloc (.cells #[.int .i64 s0, .int .i64 s1, .int .i64 s2] 49) = W2 := ⟨_, rfl⟩
      have hJ2 : J (atN xs m k) W2 := by
        rw [← hW2]
        exact hJ _ _ _ (hJ _ _ _ hJs (World.grownBy_alloc wr _ none) (Nat.le_refl _)) (World.grownBy_alloc _ _ none) (Nat.le_refl _)
      have hl := atN_len xs m k
      obtain ⟨fn, tmps, assign, body, hy, hR⟩ := hY _ (k : Int) W2 hJ2 (by omega)
      cases hrun : runsB (s0, s1, s2) m with
      | true =>
        gi_wp2_with (gi_at_call 88; refine (runs_in F (n - 1) h88 hro _ _ _ _ _).mono ?_; rintro e W2 ⟨rfl, rfl⟩)
        refine hR.mono ?_
        rintro e W3 ⟨rfl, hJ3⟩
        gi_wp2
        go_roundw
        case rel => exact ⟨k + 1, by omega, by simp, by rw [atN_yes (by rw [show xs.getD k (0, 0, 0) = (s0, s1, s2) from hs]; exact hrun)]; exact hJ3⟩
        case measure => simp [intOf]; omega
      | false =>
        gi_wp2_with (gi_at_call 88; refine (runs_in F (n - 1) h88 hro _ _ _ _ _).mono ?_; rintro e W2 ⟨rfl, rfl⟩)
        refine ⟨fun _ h => (by cases h), ?_⟩
        gi_wp2
        go_roundw
        case rel => exact ⟨k + 1, by omega, by simp, by rw [atN_no (by rw [show xs.getD k (0, 0, 0) = (s0, s1, s2) from hs]; exact hrun)]; exact hJ2⟩
        case measure => simp [intOf]; omega
    · obtain rfl : k = xs.length := by omega
      gi_wp2
      go_end0
      exact ⟨⟨_, rfl⟩, hJs⟩

theorem immOf_some {t : Ty} {a : AV} {x : t.den} (h : immOf t a = some x) : a = .iptr t x := by
  cases a with
  | iptr u y =>
    rw [immOf] at h
    split at h
    · rename_i hu _
      obtain ⟨hu⟩ := hu
      subst hu
      cases h
      rfl
    · cases h
  | _ => cases h

theorem shift_cells {S : Nat → Prop} {w : World} {b o : Nat} {xs : List (Int × Int × Int)} {ds : List Value} (hc : CellsAt w b o ds) (hr : RepRow (Rep S w shT) xs ds) (j : Nat) (hj : j < xs.length) :
    w.cell? ⟨b, o + j * 3, none⟩ = some (.int .i64 (xs.getD j (0, 0, 0)).1) ∧ w.cell? ⟨b, o + j * 3 + 1, none⟩ = some (.int .i64 (xs.getD j (0, 0, 0)).2.1) ∧ w.cell? ⟨b, o + j * 3 + 2, none⟩ = some (.int .i64 (xs.getD j (0, 0, 0)).2.2) := by
  have h := RepRow.get (n := 3) (fun x c h => Rep.length h) (0, 0, 0) j hr hj
  obtain ⟨c1, r1, e1, h1, c2, r2, e2, h2, h3⟩ := h
  have h1 : c1 = [Value.int .i64 (xs.getD j (0, 0, 0)).1] := h1
  have h2 : c2 = [Value.int .i64 (xs.getD j (0, 0, 0)).2.1] := h2
  have h3 : r2 = [Value.int .i64 (xs.getD j (0, 0, 0)).2.2] := h3
  rw [h2, h3] at e2
  rw [h1, e2] at e1
  have g : ∀ i, i < 3 → ds[j * 3 + i]? = [Value.int .i64 (xs.getD j (0, 0, 0)).1, Value.int .i64 (xs.getD j (0, 0, 0)).2.1, Value.int .i64 (xs.getD j (0, 0, 0)).2.2][i]? := by
    intro i hi
    have := congrArg (fun l => l[i]?) e1
    simp only [List.getElem?_take, List.getElem?_drop, if_pos hi] at this
    exact this
  have g0 := hc (j * 3 + 0) _ (g 0 (by omega))
  have g1 := hc (j * 3 + 1) _ (g 1 (by omega))
  have g2 := hc (j * 3 + 2) _ (g 2 (by omega))
  refine ⟨?_, ?_, ?_⟩
  · rw [show o + j * 3 = o + (j * 3 + 0) by omega]; exact g0
  · rw [show o + j * 3 + 1 = o + (j * 3 + 1) by omega]; exact g1
  · rw [show o + j * 3 + 2 = o + (j * 3 + 2) by omega]; exact g2

theorem seqAt_ok : SeqOk Try.prog (fun x : Int => Value.int .i64 x) 1000 seqAt := by
  intro v ys μ S w bl nb u hv h0 hr
  unfold seqAt at hv
  split at hv
  · rename_i g a b
    obtain ⟨hg, hv⟩ := condT hv
    have hg := nat_beq_iff.1 hg
    subst hg
    obtain ⟨xs, hxs, hv⟩ := ob_some hv
    obtain ⟨m, hm, hv⟩ := ob_some hv
    have := immOf_some hxs
    subst this
    have := immOf_some hm
    subst this
    have hv : some (Nat.ble xs.length 1000, atN xs m xs.length) = some (true, ys) := hv
    injection hv with hv
    injection hv with hlen hys
    subst hys
    have hlen : xs.length ≤ 1000 := Nat.le_of_ble_eq_true hlen
    obtain ⟨vs, e, hcap⟩ := hr.to (by simp) (by simp)
    cases e
    obtain ⟨v1, r1, rfl, h1, v2, r2, rfl, h2, rfl⟩ := hcap
    obtain ⟨Bs, Os, d1, e1, hS1, hc1, hr1⟩ : ∃ b o ds, [v1] = [.pointer (some ⟨b, o, none⟩)] ∧ S b ∧ CellsAt w b o ds ∧ Rep S w (.sl shT) xs ds := h1
    obtain ⟨Bm, Om, d2, e2, hS2, hc2, hr2⟩ : ∃ b o ds, [v2] = [.pointer (some ⟨b, o, none⟩)] ∧ S b ∧ CellsAt w b o ds ∧ Rep S w (.int .i64) m ds := h2
    cases e1
    cases e2
    obtain ⟨A, cap, rfl, _, hrow⟩ := hr1
    have hr2 : d2 = [.int .i64 m] := hr2
    subst hr2
    refine ⟨96, _, rfl, enter_of Try.func96 rfl (by kernel_rfl), ?_⟩
    intro n l J W hn hJ hJS hY hJ0
    have hBs : w.cell? ⟨Bs, Os, none⟩ = some (.slice A xs.length cap) := hc1 0 _ rfl
    have hBm : w.cell? ⟨Bm, Om, none⟩ = some (.int .i64 m) := hc2 0 _ rfl
    by_cases hpos : 0 < xs.length
    · obtain ⟨b, o, ds, rfl, hSb, hcs, hrs⟩ := hrow hpos
      exact at1_in Fence.wide n trivial trivial rfl hn S l Bs Os Bm Om cap _ b o m xs hlen hS1 hS2 (fun _ => ⟨rfl, hSb⟩) w J h0.sb hJS hJ hY W hBs hBm (shift_cells hcs hrs) hJ0
    · exact at1_in Fence.wide n trivial trivial rfl hn S l Bs Os Bm Om cap A 0 0 m xs hlen hS1 hS2 (fun h => absurd h hpos) w J h0.sb hJS hJ hY W hBs hBm (fun j hj => by omega) hJ0
  · cases hv
end Go.Proofs.Ytbojnkcolamneaa
