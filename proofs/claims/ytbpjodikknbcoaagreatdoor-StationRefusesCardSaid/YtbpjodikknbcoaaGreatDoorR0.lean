/- errors.As at a refused order: the library's own text is walked (after a worked proof of the kit). -/
import Derived.Test.YtbpjodikknbcoaaGreatDoorBase
import Derived.WalkKit
import Derived.LaidEql
import Derived.Stop.Asserts
import Derived.RowKitTokens
set_option maxRecDepth 100000
set_option linter.unusedVariables false
set_option linter.unusedSimpArgs false
namespace Go.Proofs.YtbpjodikknbcoaaGreatDoor
open Go.RowKit Go.Extern.Stop Go.Stop Go.Extern Go

theorem as_nil (t : Value) (w : World) :
    Calls Tryz.prog 101 #[.nilIface, t] w fun e w' => e = .returned (.bool false) ∧ w' = w := by
  go_enter Tryz.func101, Tryz.ntmps101
  go_wp2
  go_ret
  exact ⟨rfl, rfl⟩

theorem as_valueOf (t : Addr) (w : World) : (ReflectliteValue.unpack (.iface 144 (.pointer (some t)))).run Tryz.prog w
    = .ok (.agg #[.pointer (some ⟨7, 144, none⟩), .pointer (some ⟨w.heap.size, 0, none⟩), .int .u64 150]) (w.alloc (.cells #[.pointer (some t)] 144)) := by kernel_rfl
theorem as_type (a : Addr) (w : World) : (ReflectliteValue.methodAny (ReflectliteValue.valueError "reflectlite.Value.Type" 0) (fun t _ _ _ => ReflectliteType.toType t) #[.agg #[.pointer (some ⟨7, 144, none⟩), .pointer (some a), .int .u64 150]]).run Tryz.prog w
    = .ok (.iface 197 (.agg #[.pointer (some ⟨7, 144, none⟩)])) w := by kernel_rfl
theorem as_methodKind (h : Value) (w : World) : (Go.method 368 197 (.agg #[h]) "Kind").run Tryz.prog w = .ok (201, h) w := by kernel_rfl
theorem as_kindP (w : World) : ((ReflectliteType.abiMethod fun t => (fun a : Nat => Value.int IntKind.u8 (a : Int)) <$> Rtype.kind t) #[.pointer (some ⟨7, 144, none⟩)]).run Tryz.prog w = .ok (.int .u8 22) w := by kernel_rfl
theorem as_kindS (w : World) : ((ReflectliteType.abiMethod fun t => (fun a : Nat => Value.int IntKind.u8 (a : Int)) <$> Rtype.kind t) #[.pointer (some ⟨7, 142, none⟩)]).run Tryz.prog w = .ok (.int .u8 25) w := by kernel_rfl
theorem as_rlm (z : Sem Value) (f : TypeId → Addr → Nat → Nat → Sem Value) (v : Value) :
    ReflectliteValue.method z f #[v] = (do match ← ReflectliteValue.parts v with | none => z | some (t, a, fl) => f t a fl (fl % 32)) := rfl
theorem as_partsP (a : Addr) (w : World) : (ReflectliteValue.parts (.agg #[.pointer (some ⟨7, 144, none⟩), .pointer (some a), .int .u64 150])).run Tryz.prog w = .ok (some (144, a, 150)) w := by kernel_rfl
theorem as_isNil (a p : Addr) (W : World) (ha : W.cell? a = some (.pointer (some p))) :
    (ReflectliteValue.method (ReflectliteValue.valueError "reflectlite.Value.IsNil" 0) ReflectliteValue.isNil #[.agg #[.pointer (some ⟨7, 144, none⟩), .pointer (some a), .int .u64 150]]).run Tryz.prog W = .ok (.bool false) W := by
  rw [as_rlm]
  simp only [Sem.run_bind, as_partsP, Result.andThen]
  simp [ReflectliteValue.isNil, loadVar, isAgg, underlying, Tryz.underlying144, ha, Result.andThen]
theorem as_methodElem (h : Value) (w : World) : (Go.method 368 197 (.agg #[h]) "Elem").run Tryz.prog w = .ok (212, .agg #[h]) w := by kernel_rfl
theorem as_methodAssignableTo (h : Value) (w : World) : (Go.method 368 197 (.agg #[h]) "AssignableTo").run Tryz.prog w = .ok (210, .agg #[h]) w := by kernel_rfl
theorem as_methodImplements (h : Value) (w : World) : (Go.method 368 197 (.agg #[h]) "Implements").run Tryz.prog w = .ok (213, .agg #[h]) w := by kernel_rfl
theorem as_elem (w : World) : (ReflectliteType.method ReflectliteType.elem #[.agg #[.pointer (some ⟨7, 144, none⟩)]]).run Tryz.prog w = .ok (.iface 197 (.agg #[.pointer (some ⟨7, 142, none⟩)])) w := by kernel_rfl
theorem as_implements (w : World) : (ReflectliteType.relation "Implements" ReflectliteType.implements_ #[.agg #[.pointer (some ⟨7, 142, none⟩)], .iface 197 (.agg #[.pointer (some ⟨7, 112, none⟩)])]).run Tryz.prog w = .ok (.bool true) w := by kernel_rfl
theorem as_typeOf (v : Value) (w : World) : (ReflectliteType.typeOf #[.iface 142 v]).run Tryz.prog w = .ok (.iface 197 (.agg #[.pointer (some ⟨7, 142, none⟩)])) w := by kernel_rfl
theorem as_assignable (w : World) : (ReflectliteType.relation "AssignableTo" ReflectliteType.assignableTo #[.agg #[.pointer (some ⟨7, 142, none⟩)], .iface 197 (.agg #[.pointer (some ⟨7, 142, none⟩)])]).run Tryz.prog w = .ok (.bool true) w := by kernel_rfl
theorem as_valueOfS (n : Int) (w : World) : (ReflectliteValue.unpack (.iface 142 (.agg #[.int .i64 n]))).run Tryz.prog w
    = .ok (.agg #[.pointer (some ⟨7, 142, none⟩), .pointer (some ⟨w.heap.size, 0, none⟩), .int .u64 153]) (w.alloc (.cells #[.int .i64 n] 142)) := by kernel_rfl
theorem as_elemOf (w : World) : (Rtype.elem? 144).run Tryz.prog w = .ok (some 142) w := by kernel_rfl
theorem as_mk (p : Addr) (w : World) : (ReflectliteValue.mk 142 p ReflectliteValue.flagAddr).run Tryz.prog w = .ok (.agg #[.pointer (some ⟨7, 142, none⟩), .pointer (some p), .int .u64 409]) w := by kernel_rfl
theorem as_elemV (a p : Addr) (W : World) (ha : W.cell? a = some (.pointer (some p))) :
    (ReflectliteValue.method (ReflectliteValue.valueError "reflectlite.Value.Elem" 0) ReflectliteValue.elem #[.agg #[.pointer (some ⟨7, 144, none⟩), .pointer (some a), .int .u64 150]]).run Tryz.prog W
      = .ok (.agg #[.pointer (some ⟨7, 142, none⟩), .pointer (some p), .int .u64 409]) W := by
  rw [as_rlm]
  simp only [Sem.run_bind, as_partsP, Result.andThen]
  simp [ReflectliteValue.elem, loadVar, isAgg, underlying, Tryz.underlying144, ha, Result.andThen, as_elemOf, as_mk]
theorem as_rls (v x : Value) : ReflectliteValue.set #[v, x] = (do
    let (some (dst, a, fl), some (src, b, _)) := (← ReflectliteValue.parts v, ← ReflectliteValue.parts x)
      | unsupported (.noEntry "extern/(internal/reflectlite.Value).Set.zeroValue")
    if fl / ReflectliteValue.flagAddr % 2 == 0 then unsupported (.noEntry "extern/(internal/reflectlite.Value).Set.unaddressable")
    let val ← loadVar src b
    if ← Rtype.directlyAssignable dst src then storeVar dst a val
    else if ← Rtype.implements dst src then
      if (← Rtype.kind src) == 20 then
        match val with
        | .nilIface => unsupported (.noEntry "extern/reflectlite: a nil value of one interface type handed on as a value of another")
        | _ => storeVar dst a val
      else storeVar dst a (.iface src val)
    else panicString ("reflectlite.Set: value of type " ++ (← Rtype.spelt src) ++ " is not assignable to type " ++ (← Rtype.spelt dst))
    pure (.tuple #[])) := rfl
theorem as_partsA (a : Addr) (w : World) : (ReflectliteValue.parts (.agg #[.pointer (some ⟨7, 142, none⟩), .pointer (some a), .int .u64 409])).run Tryz.prog w = .ok (some (142, a, 409)) w := by kernel_rfl
theorem as_partsB (a : Addr) (w : World) : (ReflectliteValue.parts (.agg #[.pointer (some ⟨7, 142, none⟩), .pointer (some a), .int .u64 153])).run Tryz.prog w = .ok (some (142, a, 153)) w := by kernel_rfl
theorem as_direct (w : World) : (Rtype.directlyAssignable 142 142).run Tryz.prog w = .ok true w := by kernel_rfl
theorem as_load (b : Nat) (n : Int) (W : World) (hb : W.heap[b]? = some (.cells #[.int .i64 n] 142 (0, 0))) :
    (loadVar 142 ⟨b, 0, none⟩).run Tryz.prog W = .ok (.agg #[.int .i64 n]) W :=
  run_loadVar_row W b 142 142 #[.int .i64 n] (0, 0) _ hb Tryz.underlying142 rfl (by kernel_rfl)
/-- (Value).Set at a variable that holds a refused order: it gets what the Value's own variable holds. -/
theorem as_set (ta b : Nat) (n : Int) (old : Array Value) (ho : old.size = 1) (W : World) (hb : W.heap[b]? = some (.cells #[.int .i64 n] 142 (0, 0))) (ht : W.heap[ta]? = some (.cells old 142 (0, 0))) :
    (ReflectliteValue.set #[.agg #[.pointer (some ⟨7, 142, none⟩), .pointer (some ⟨ta, 0, none⟩), .int .u64 409], .agg #[.pointer (some ⟨7, 142, none⟩), .pointer (some ⟨b, 0, none⟩), .int .u64 153]]).run Tryz.prog W
      = .ok (.tuple #[]) (W.setRow ta #[.int .i64 n]) := by
  rw [as_rls]
  simp only [Sem.run_bind, as_partsA, as_partsB, Result.andThen]
  simp only [ReflectliteValue.flagAddr]
  have := as_load b n W hb
  have h2 := run_storeVar_row (P := Tryz.prog) W ta 142 142 old #[.int .i64 n] ht (by kernel_rfl) (by simp [ho]) (by simp [Value.oneCell'])
  simp only [Nat.reduceDiv, Nat.reduceMod, Nat.reduceBEq, Bool.false_eq_true, if_false, Sem.run_bind, this, Result.andThen, as_direct, if_true, h2, Sem.run_pure]

set_option maxHeartbeats 4000000 in
theorem as_hit (n : Int) (t : Nat) (old : Array Value) (ho : old.size = 1) (w : World) (hg : w.cell? ⟨0, 0, none⟩ = some (.iface 197 (.agg #[.pointer (some ⟨7, 112, none⟩)]))) (ht : w.heap[t]? = some (.cells old 142 (0, 0))) :
    Calls Tryz.prog 101 #[.iface 142 (.agg #[.int .i64 n]), .iface 144 (.pointer (some ⟨t, 0, none⟩))] w fun ev w' => ev = .returned (.bool true) ∧ w' = ((((w.alloc (.cells #[.pointer (some ⟨t, 0, none⟩)] 144)).alloc (.cells #[.pointer (some ⟨7, 144, none⟩), .pointer (some ⟨w.heap.size, 0, none⟩), .int .u64 150] 171)).alloc (.cells #[.pointer (some ⟨7, 144, none⟩), .pointer (some ⟨w.heap.size, 0, none⟩), .int .u64 150] 171)).alloc (.cells #[.int .i64 n] 142)).setRow t #[.int .i64 n] := by
  have h6 := @run_callFunc_extern Tryz.prog 131 _ (fun args => ReflectliteValue.unpack (args.getD 0 (.tuple #[]))) Tryz.func131 (by kernel_rfl) (by kernel_rfl) (by kernel_rfl) (by kernel_rfl)
  have h7 := @run_callFunc_extern Tryz.prog 132 _ (ReflectliteValue.methodAny (ReflectliteValue.valueError "reflectlite.Value.Type" 0) (fun t _ _ _ => ReflectliteType.toType t)) Tryz.func132 (by kernel_rfl) (by kernel_rfl) (by kernel_rfl) (by kernel_rfl)
  have h8 := @run_callFunc_extern Tryz.prog 133 _ (ReflectliteValue.method (ReflectliteValue.valueError "reflectlite.Value.IsNil" 0) ReflectliteValue.isNil) Tryz.func133 (by kernel_rfl) (by kernel_rfl) (by kernel_rfl) (by kernel_rfl)
  have h27 := @run_callFunc_extern Tryz.prog 201 _ (ReflectliteType.abiMethod fun t => do pure (.int .u8 (← Rtype.kind t))) Tryz.func201 (by kernel_rfl) (by kernel_rfl) (by kernel_rfl) (by kernel_rfl)
  have h37 := @run_callFunc_extern Tryz.prog 212 _ (ReflectliteType.method ReflectliteType.elem) Tryz.func212 (by kernel_rfl) (by kernel_rfl) (by kernel_rfl) (by kernel_rfl)
  have h38 := @run_callFunc_extern Tryz.prog 213 _ (ReflectliteType.relation "Implements" ReflectliteType.implements_) Tryz.func213 (by kernel_rfl) (by kernel_rfl) (by kernel_rfl) (by kernel_rfl)
  have h10 := @run_callFunc_extern Tryz.prog 157 _ ReflectliteType.typeOf Tryz.func157 (by kernel_rfl) (by kernel_rfl) (by kernel_rfl) (by kernel_rfl)
  have h35 := @run_callFunc_extern Tryz.prog 210 _ (ReflectliteType.relation "AssignableTo" ReflectliteType.assignableTo) Tryz.func210 (by kernel_rfl) (by kernel_rfl) (by kernel_rfl) (by kernel_rfl)
  have h11 := @run_callFunc_extern Tryz.prog 158 _ (ReflectliteValue.method (ReflectliteValue.valueError "reflectlite.Value.Elem" 0) ReflectliteValue.elem) Tryz.func158 (by kernel_rfl) (by kernel_rfl) (by kernel_rfl) (by kernel_rfl)
  have h12 := @run_callFunc_extern Tryz.prog 159 _ ReflectliteValue.set Tryz.func159 (by kernel_rfl) (by kernel_rfl) (by kernel_rfl) (by kernel_rfl)
  have tO := as_typeOf
  have mA := as_methodAssignableTo
  have a25 := as_assignable
  have v25 := as_valueOfS
  have f6 := as_valueOf
  have f7 := as_type
  have mK := as_methodKind
  have mE := as_methodElem
  have mI := as_methodImplements
  have k27 := as_kindP
  have k25 := as_kindS
  have e27 := as_elem
  have i25 := as_implements
  have n8 := as_isNil ⟨w.heap.size, 0, none⟩ ⟨t, 0, none⟩ ((w.alloc (.cells #[.pointer (some ⟨t, 0, none⟩)] 144)).alloc (.cells #[.pointer (some ⟨7, 144, none⟩), .pointer (some ⟨w.heap.size, 0, none⟩), .int .u64 150] 171)) (by simp)
  have htl : t < w.heap.size := by
    rcases Nat.lt_or_ge t w.heap.size with h | h
    · exact h
    · simp [Array.getElem?_eq_none h] at ht
  have hlt : 0 < w.heap.size := by omega
  have hg2 : ((w.alloc (.cells #[.pointer (some ⟨t, 0, none⟩)] 144)).alloc (.cells #[.pointer (some ⟨7, 144, none⟩), .pointer (some ⟨w.heap.size, 0, none⟩), .int .u64 150] 171)).cell? ⟨0, 0, none⟩ = some (.iface 197 (.agg #[.pointer (some ⟨7, 112, none⟩)])) := by
    rw [World.cell?_alloc_lt _ _ ⟨0, 0, none⟩ (by simp), World.cell?_alloc_lt _ _ ⟨0, 0, none⟩ hlt]; exact hg
  have el := as_elemV ⟨w.heap.size, 0, none⟩ ⟨t, 0, none⟩ (((w.alloc (.cells #[.pointer (some ⟨t, 0, none⟩)] 144)).alloc (.cells #[.pointer (some ⟨7, 144, none⟩), .pointer (some ⟨w.heap.size, 0, none⟩), .int .u64 150] 171)).alloc (.cells #[.pointer (some ⟨7, 144, none⟩), .pointer (some ⟨w.heap.size, 0, none⟩), .int .u64 150] 171)) (by rw [World.cell?_alloc_lt _ _ ⟨w.heap.size, 0, none⟩ (by simp; omega)]; simp)
  have st := as_set t (w.heap.size + 1 + 1 + 1) n old ho ((((w.alloc (.cells #[.pointer (some ⟨t, 0, none⟩)] 144)).alloc (.cells #[.pointer (some ⟨7, 144, none⟩), .pointer (some ⟨w.heap.size, 0, none⟩), .int .u64 150] 171)).alloc (.cells #[.pointer (some ⟨7, 144, none⟩), .pointer (some ⟨w.heap.size, 0, none⟩), .int .u64 150] 171)).alloc (.cells #[.int .i64 n] 142))
    (by simp only [World.alloc]; rw [Array.getElem?_push]; simp)
    (by simp only [World.alloc]; rw [Array.getElem?_push_lt (by simp; omega), Array.getElem_push_lt (by simp; omega), Array.getElem_push_lt (by simp; omega), Array.getElem_push_lt htl]; rw [Array.getElem?_eq_getElem htl] at ht; exact ht)
  go_enter Tryz.func101, Tryz.ntmps101
  go_wp2
  refine wp_loop_rounds 1 ?_
  rw [rounds_succ]
  go_wp2
  go_ret
  exact ⟨rfl, rfl⟩
end Go.Proofs.YtbpjodikknbcoaaGreatDoor
