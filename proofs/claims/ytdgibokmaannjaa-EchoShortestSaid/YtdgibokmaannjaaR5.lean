/- exists: the deferred closure, and the callback that panics. -/
import Derived.Test.YtdgibokmaannjaaR4
import Derived.Tactics
import Derived.Tactics2
import Derived.Defers
import Derived.Recover
import Derived.Laws.Pointers
set_option linter.unusedVariables false
set_option linter.unusedSimpArgs false
namespace Go.Proofs.Ytdgibokmaannjaa
open Go Go.Pv Go.RowKit Go.Sort

theorem catch_idle (p : Addr) (x : Bool) (w : World) :
    CallsD Try.prog 107 #[.pointer (some p)] .returning w fun e u' w' => e = .returned (.tuple #[]) ∧ u' = .returning ∧ w' = w := by
  refine callsD_of_wpS Try.func107 rfl fun c₀ cs hu => ?_
  apply wpS_seq
  apply wpS_region
  simp [wpOpsS, go_sem, recoverD, hu, Try.ntmps107, Exit.thenS]
  apply wpS_seq
  apply wpS_region
  simp [wpOpsS, go_sem, recoverD, hu, Try.ntmps107, Exit.thenS]
  refine wpS_cond (t := false) (by simp [Act.eval, Array.replicate]) ?_
  simp only [Bool.false_eq_true, if_false]
  refine wpS_of_wp (wp_skip ?_)
  cases c₀
  simp_all [bodyPostS, results, Try.results107]
theorem ta74 (w : World) : Sem.run Try.prog (Instr.typeAssert (Value.iface 74 (Value.agg #[])) 20 74 true) w = .ok (.tuple #[.agg #[], .bool true]) w := by kernel_rfl
set_option maxRecDepth 100000 in
set_option maxHeartbeats 2000000 in
theorem catch_panicking (p : Addr) (x : Bool) (older : List PanicEntry) (w : World) (hc : w.cell? p = some (.bool x)) (hz : w.frozen? p = false) (hp : p.block < w.heap.size) :
    CallsD Try.prog 107 #[.pointer (some p)] (.panicking ({ v := .iface 74 (.agg #[]), recovered := false } :: older)) w fun e u' w' =>
      e = .returned (.tuple #[]) ∧ u' = .panicking ({ v := .iface 74 (.agg #[]), recovered := true } :: older) ∧ ∃ o, w' = (w.alloc o).setCell p (.bool true) := by
  refine callsD_of_wpS Try.func107 rfl fun c₀ cs hu => ?_
  apply wpS_seq
  apply wpS_region
  simp [wpOpsS, go_sem, recoverD, hu, Try.ntmps107, Exit.thenS]
  apply wpS_seq
  apply wpS_region
  simp [wpOpsS, go_sem, recoverD, hu, Try.ntmps107, Exit.thenS]
  refine wpS_cond (t := true) (by simp [Act.eval, Array.replicate]) ?_
  simp only [if_true]
  have hta := ta74
  have hz2 : (w.alloc (.cells #[] 74)).frozen? p = false := by rw [alloc_eq_grow, frozen?_grow _ _ _ hp]; exact hz
  have hc2 : (w.alloc (.cells #[] 74)).cell? p = some (.bool x) := by rw [alloc_eq_grow, cell?_grow _ _ _ hp]; exact hc
  refine wpS_of_wp ?_
  simp only [Array.replicate_succ, Array.replicate_zero, List.push_toArray, List.append_toArray, List.nil_append, List.cons_append, List.setIfInBounds_toArray, List.set_cons_succ, List.set_cons_zero]
  go_wp2
  cases c₀
  simp_all [bodyPostS, results, Try.results107]
  exact ⟨_, rfl⟩

set_option maxRecDepth 100000 in
set_option maxHeartbeats 2000000 in
theorem exists_panics (l : Value) (w : World) (H : Calls Try.prog 95 #[l, .func (.func 108) #[] #[]] (w.alloc (.cells #[.bool false] 4)) fun e w' => e = .panicked [{ v := .iface 74 (.agg #[]), recovered := false }] ∧ ∃ q os, w' = grow ((w.alloc (.cells #[.bool false] 4)).drewN q) os) :
    Calls Try.prog 88 #[l] w fun e w' => e = .returned (.bool true) ∧ ∃ q os o, w' = ((grow ((w.alloc (.cells #[.bool false] 4)).drewN q) os).alloc o).setCell ⟨w.heap.size, 0, none⟩ (.bool true) := by
  have hmf : ∀ (fn : Fn) (first cap : Array Value) (w : World), (Instr.makeFunc fn first cap).run Try.prog w = .ok (.func fn first cap) w := fun _ _ _ _ => rfl
  have e95 : ∀ args w, (callFunc 95 args).run Try.prog w = .ok (.enter 95 args) w := enter_of Try.func95 rfl (by kernel_rfl)
  go_enter_defers Try.func88, Try.ntmps88
  go_wp2_with (go_at_fn 95; refine H.mono ?_; rintro e W ⟨rfl, q, os, rfl⟩)
  refine leaves_cons (f := 107) (args := #[.pointer (some ⟨w.heap.size, 0, none⟩)]) (by simp) (by simp [go_sem]) ?_
  have hlt : w.heap.size < ((w.alloc (.cells #[.bool false] 4)).drewN q).heap.size := by
    show w.heap.size < (w.alloc (.cells #[.bool false] 4)).heap.size
    simp
  have hc : (grow ((w.alloc (.cells #[.bool false] 4)).drewN q) os).cell? ⟨w.heap.size, 0, none⟩ = some (.bool false) := by
    rw [cell?_grow _ _ _ hlt]
    show (w.alloc (.cells #[.bool false] 4)).cell? ⟨w.heap.size, 0, none⟩ = _
    simp
  have hz : (grow ((w.alloc (.cells #[.bool false] 4)).drewN q) os).frozen? ⟨w.heap.size, 0, none⟩ = false := by
    rw [frozen?_grow _ _ _ hlt]
    show (w.alloc (.cells #[.bool false] 4)).frozen? ⟨w.heap.size, 0, none⟩ = _
    simp
  refine (catch_panicking ⟨w.heap.size, 0, none⟩ false [] _ hc hz (by rw [size_grow]; exact Nat.lt_of_lt_of_le hlt (Nat.le_add_right _ _))).mono ?_
  rintro e u' w'' ⟨rfl, rfl, o, rfl⟩
  have hr : (((grow ((w.alloc (.cells #[.bool false] 4)).drewN q) os).alloc o).setCell ⟨w.heap.size, 0, none⟩ (.bool true)).cell? ⟨w.heap.size, 0, none⟩ = some (.bool true) :=
    World.cell?_setCell_same' _ _ _ (by rw [alloc_eq_grow, cell?_grow _ _ _ (by rw [size_grow]; exact Nat.lt_of_lt_of_le hlt (Nat.le_add_right _ _)), hc]; rfl)
  simp [Leaves, settle, results, Try.results88, go_sem, hr]
  exact ⟨q, os, o, rfl⟩
set_option maxRecDepth 100000 in
set_option maxHeartbeats 2000000 in
theorem exists_none (l : Value) (w : World) (H : Calls Try.prog 95 #[l, .func (.func 108) #[] #[]] (w.alloc (.cells #[.bool false] 4)) fun e w' => e = .returned (.tuple #[]) ∧ ∃ q os, w' = grow ((w.alloc (.cells #[.bool false] 4)).drewN q) os) :
    Calls Try.prog 88 #[l] w fun e w' => e = .returned (.bool false) ∧ ∃ q os, w' = (grow ((w.alloc (.cells #[.bool false] 4)).drewN q) os).setCell ⟨w.heap.size, 0, none⟩ (.bool false) := by
  have hmf : ∀ (fn : Fn) (first cap : Array Value) (w : World), (Instr.makeFunc fn first cap).run Try.prog w = .ok (.func fn first cap) w := fun _ _ _ _ => rfl
  have e95 : ∀ args w, (callFunc 95 args).run Try.prog w = .ok (.enter 95 args) w := enter_of Try.func95 rfl (by kernel_rfl)
  have hlt : ∀ q, w.heap.size < ((w.alloc (.cells #[.bool false] 4)).drewN q).heap.size := fun q => by
    show w.heap.size < (w.alloc (.cells #[.bool false] 4)).heap.size
    simp
  have hc : ∀ q os, (grow ((w.alloc (.cells #[.bool false] 4)).drewN q) os).cell? ⟨w.heap.size, 0, none⟩ = some (.bool false) := fun q os => by
    rw [cell?_grow _ _ _ (hlt q)]
    show (w.alloc (.cells #[.bool false] 4)).cell? ⟨w.heap.size, 0, none⟩ = _
    simp
  have hz : ∀ q os, (grow ((w.alloc (.cells #[.bool false] 4)).drewN q) os).frozen? ⟨w.heap.size, 0, none⟩ = false := fun q os => by
    rw [frozen?_grow _ _ _ (hlt q)]
    show (w.alloc (.cells #[.bool false] 4)).frozen? ⟨w.heap.size, 0, none⟩ = _
    simp
  go_enter_defers Try.func88, Try.ntmps88
  go_wp2_with (go_at_fn 95; refine H.mono ?_; rintro e W ⟨rfl, q, os, rfl⟩)
  refine leaves_cons (f := 107) (args := #[.pointer (some ⟨w.heap.size, 0, none⟩)]) (by simp) (by simp [go_sem]) ?_
  refine (catch_idle ⟨w.heap.size, 0, none⟩ false _).mono ?_
  rintro e u' w'' ⟨rfl, rfl, rfl⟩
  have hr : ((grow ((w.alloc (.cells #[.bool false] 4)).drewN q) os).setCell ⟨w.heap.size, 0, none⟩ (.bool false)).cell? ⟨w.heap.size, 0, none⟩ = some (.bool false) :=
    World.cell?_setCell_same' _ _ _ (by rw [hc]; rfl)
  simp [Leaves, settle, results, Try.results88, go_sem, hr]
  exact ⟨q, os, rfl⟩
abbrev foundC : List PanicEntry := [{ v := .iface 74 (.agg #[]), recovered := false }]
set_option maxRecDepth 100000 in
set_option maxHeartbeats 2000000 in
theorem tell_panics (v : Value) (w : World) : Calls Try.prog 108 #[v] w fun e w' => e = .panicked foundC ∧ w' = w := by
  have hpn : ∀ w : World, Sem.run Try.prog (Instr.panic (Value.iface 74 (Value.agg #[]))) w = .halt (.panic (Value.iface 74 (Value.agg #[]))) w := fun w => by kernel_rfl
  go_enter Try.func108, Try.ntmps108
  go_wp2
  simp [bodyPost]
end Go.Proofs.Ytdgibokmaannjaa
