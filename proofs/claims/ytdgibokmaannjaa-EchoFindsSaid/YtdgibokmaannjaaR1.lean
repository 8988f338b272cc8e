/- The loop over a function of this layer: that the library's function hands this on. -/
import Derived.Test.YtdgibokmaannjaaR0
import Derived.Shelf.Abstract
import Derived.WalkKit
import Derived.OwnWalkIn
import Derived.TacticsInMore
import Derived.LoopNIn
import Derived.LoopIn
namespace Go.Proofs.Ytdgibokmaannjaa
open Go Go.Pv Go.RowKit Go.Shelf
attribute [local go_sem] Oper.semAt_some

theorem cell_heap {W W' : World} {p : Addr} (h : W'.heap[p.block]? = W.heap[p.block]?) : W'.cell? p = W.cell? p := by unfold World.cell?; rw [h]
theorem backL_succ (xs : List Int) (k : Nat) : backL xs (k + 1) = ((k : Int), xs.getD k 0) :: backL xs k := rfl
theorem backL_length (xs : List Int) : ∀ k, (backL xs k).length = k
  | 0 => rfl
  | k + 1 => by rw [backL, List.length_cons, backL_length xs k]

set_option maxRecDepth 100000 in
set_option maxHeartbeats 2000000 in
theorem back_in (F : Fence) (n : Nat) (h113 : F.fn 113) (hro : F.round = none) (hn : 1 ≤ n) (S : Nat → Prop) (l Bs Os cap : Nat) (A : Option Addr) (b off : Nat) (xs : List Int) (hreach : xs.length ≤ 1000)
    (hSs : S Bs) (hA : 0 < xs.length → A = some ⟨b, off, none⟩ ∧ S b) (w0 : World) (J : List (Int × Int) → World → Prop) (hS : ∀ b, S b → b < w0.heap.size)
    (hJS : ∀ s W, J s W → w0.heap.size ≤ W.heap.size ∧ ∀ b, S b → W.heap[b]? = w0.heap[b]?)
    (hY : ∀ pre x W, J pre W → pre.length < 1000 → YieldAt F (n - 1) Try.prog l #[.int .i64 x.1, .int .i64 x.2] W fun e W' => e = .returned (.bool true) ∧ J (pre ++ [x]) W')
    (W : World) (hBs : w0.cell? ⟨Bs, Os, none⟩ = some (.slice A xs.length cap))
    (hc : ∀ j, j < xs.length → w0.cell? ⟨b, off + j, none⟩ = some (.int .i64 (xs.getD j 0))) (h0 : J [] W) :
    CallsIn F n Try.prog 113 #[.func (.yield l) #[] #[], .pointer (some ⟨Bs, Os, none⟩)] W fun e W' => (∃ v, e = .returned v) ∧ J (backL xs xs.length) W' := by
  refine callsIn_of_wp Try.func113 rfl h113 ?_ hro
  simp only [Try.ntmps113, List.size_toArray, List.length_cons, List.length_nil, Nat.reduceAdd, Nat.reduceSub, Array.replicate_succ, Array.replicate_zero, List.push_toArray, List.append_toArray, List.nil_append, List.cons_append]
  have hBsW : W.cell? ⟨Bs, Os, none⟩ = some (.slice A xs.length cap) := (cell_heap (p := ⟨Bs, Os, none⟩) ((hJS _ _ h0).2 Bs hSs)).trans hBs
  gi_wp2
  gi_loopw [3] (fun i wr => ∃ (k : Nat) (pre : List (Int × Int)), k ≤ xs.length ∧ i = .int .i64 ((k : Int) - 1) ∧ pre ++ backL xs k = backL xs xs.length ∧ J pre wr)
    (fun i _ => (intOf i + 1).toNat)
  case atStart => exact ⟨xs.length, [], Nat.le_refl _, by simp, rfl, h0⟩
  case round =>
    obtain ⟨k, pre, hk, rfl, hpre, hJs⟩ := hrel
    have hSw : ∀ b, S b → b < wr.heap.size := fun b hb => Nat.lt_of_lt_of_le (hS b hb) (hJS _ _ hJs).1
    have hnx : ∀ b, S b → wr.heap[b]? = w0.heap[b]? := (hJS _ _ hJs).2
    have hBs' : wr.cell? ⟨Bs, Os, none⟩ = some (.slice A xs.length cap) := (cell_heap (p := ⟨Bs, Os, none⟩) (hnx Bs hSs)).trans hBs
    have hpl : pre.length + k = xs.length := by
      have := congrArg List.length hpre
      rwa [List.length_append, backL_length, backL_length] at this
    by_cases hlt : 0 < k
    · obtain ⟨j, rfl⟩ : ∃ j, k = j + 1 := ⟨k - 1, by omega⟩
      obtain ⟨rfl, hSb⟩ := hA (by omega)
      have c0 := (cell_heap (p := ⟨b, off + j, none⟩) (hnx b hSb)).trans (hc j (by omega))
      generalize hx : xs.getD j 0 = x at c0
      have ej : ((j + 1 : Nat) : Int) - 1 = (j : Int) := by omega
      rw [ej]
      obtain ⟨fn, tmps, assign, body, hy, hR⟩ := hY pre ((j : Int), x) wr hJs (by omega)
      have hy : (Instr.yield l #[.int .i64 (j : Int), .int .i64 x]).run Try.prog wr = .ok (.round l fn tmps assign body) wr := hy
      clear hc
      gi_wp2
      refine hR.mono ?_
      rintro e W3 ⟨rfl, hJ3⟩
      gi_wp2
      go_roundw
      case rel => exact ⟨j, pre ++ [((j : Int), x)], by omega, rfl, by rw [← hpre, backL_succ, hx]; simp, hJ3⟩
      case measure => (simp [intOf]) <;> omega
    · obtain rfl : k = 0 := by omega
      gi_wp2
      go_end0
      have : pre = backL xs xs.length := by rw [← hpre]; simp [backL]
      exact ⟨⟨_, rfl⟩, this ▸ hJs⟩

theorem immOf_some {t : Ty} {a : AV} {x : t.den} (h : immOf t a = some x) : a = .iptr t x := by
  cases a with
  | iptr u y =>
    rw [immOf] at h
    split at h
    · rename_i hu _
      obtain ⟨hu⟩ := hu
      subst hu
      cases h
      rfl
    · cases h
  | _ => cases h

theorem int_cells {S : Nat → Prop} {w : World} {b o : Nat} {xs : List Int} {ds : List Value} (hc : CellsAt w b o ds) (hr : RepRow (Rep S w (.int .i64)) xs ds) (j : Nat) (hj : j < xs.length) :
    w.cell? ⟨b, o + j, none⟩ = some (.int .i64 (xs.getD j 0)) := by
  have h := RepRow.get (n := 1) (fun x c h => Rep.length h) 0 j hr hj
  have h : List.take 1 (List.drop (j * 1) ds) = [.int .i64 (xs.getD j 0)] := h
  have := congrArg (fun l => l[0]?) h
  simp only [List.getElem?_take, List.getElem?_drop, Nat.mul_one, Nat.add_zero] at this
  exact hc j _ (by simpa using this)

theorem seqBack_ok : SeqOk2 Try.prog (fun p : Int × Int => Value.int .i64 p.1) (fun p : Int × Int => Value.int .i64 p.2) 1000 seqBack := by
  intro v ys μ S w bl nb u hv h0 hr
  unfold seqBack at hv
  split at hv
  · rename_i g a
    obtain ⟨hg, hv⟩ := condT hv
    have hg := nat_beq_iff.1 hg
    subst hg
    obtain ⟨xs, hxs, hv⟩ := ob_some hv
    have := immOf_some hxs
    subst this
    have hv : some (Nat.ble xs.length 1000, backL xs xs.length) = some (true, ys) := hv
    injection hv with hv
    injection hv with hlen hys
    subst hys
    have hlen : xs.length ≤ 1000 := Nat.le_of_ble_eq_true hlen
    obtain ⟨vs, e, hcap⟩ := hr.to (by simp) (by simp)
    cases e
    obtain ⟨v1, r1, rfl, h1, rfl⟩ := hcap
    obtain ⟨Bs, Os, d1, e1, hS1, hc1, hr1⟩ : ∃ b o ds, [v1] = [.pointer (some ⟨b, o, none⟩)] ∧ S b ∧ CellsAt w b o ds ∧ Rep S w (.sl (.int .i64)) xs ds := h1
    cases e1
    obtain ⟨A, cap, rfl, _, hrow⟩ := hr1
    refine ⟨113, _, rfl, enter_of Try.func113 rfl (by kernel_rfl), ?_⟩
    intro n l J W hn hJ hJS hY hJ0
    have hBs : w.cell? ⟨Bs, Os, none⟩ = some (.slice A xs.length cap) := hc1 0 _ rfl
    by_cases hpos : 0 < xs.length
    · obtain ⟨b, o, ds, rfl, hSb, hcs, hrs⟩ := hrow hpos
      exact back_in Fence.wide n trivial rfl hn S l Bs Os cap _ b o xs hlen hS1 (fun _ => ⟨rfl, hSb⟩) w J h0.sb hJS hY W hBs (int_cells hcs hrs) hJ0
    · exact back_in Fence.wide n trivial rfl hn S l Bs Os cap A 0 0 xs hlen hS1 (fun h => absurd h hpos) w J h0.sb hJS hY W hBs (fun j hj => by omega) hJ0
  · cases hv
end Go.Proofs.Ytdgibokmaannjaa
