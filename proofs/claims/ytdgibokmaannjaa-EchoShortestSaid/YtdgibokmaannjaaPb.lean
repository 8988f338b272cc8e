/- A pure reading of the model's code, and that the run does what it says: part b. -/
import Derived.Test.YtdgibokmaannjaaPa
import Derived.Laws.CopyRow
import Derived.Laws.Append
import Derived.Laws.Slices
import Derived.Laws.MakeOwn
import Derived.Laws.Small
import Derived.MapKept
/- Operations of the reading against the model's: the frame, loads and stores. -/
set_option linter.unusedVariables false
set_option linter.unusedSimpArgs false
namespace Go.Pv

/-- What the table of types says is so. -/
def intAt (P : Program) (t : TypeId) (k : IntKind) : Bool :=
  match P.underlying t with
  | some (.int k') => (ksame k k').isSome
  | _ => false
/-- Are a struct's fields these numbers? -/
def eqsB (P : Program) : Nat → List Field → Ty → Bool
  | _, [], .un => true
  | o, f :: r, .int k => r.isEmpty && Nat.beq f.offset o && f.name != "_" && intAt P f.type k
  | o, f :: r, .pr (.int k) b => Nat.beq f.offset o && f.name != "_" && intAt P f.type k && eqsB P (o + 1) r b
  | _, _, _ => false

structure TiOk (P : Program) (T : Nat → TI) (t : Nat) : Prop where
  info : (T t).size ≠ 0 → ∃ inf, P.info? t = some inf ∧ inf.size = (T t).size ∧ inf.bytes = (T t).bytes ∧ (T t).bytes ≠ 0
  zero : (T t).zero ≠ .junk → (T t).zero.agg = (T t).agg ∧ ∃ inf z, P.info? t = some inf ∧ inf.zero = some z ∧ ∀ μ S w, RV μ S w (T t).zero z ∧ ∀ x y, (T t).zero ≠ .cons x y
  agg : (T t).size ≠ 0 → ∀ w, (isAgg t).run P w = .ok (T t).agg w
  pure : (T t).pure = true → (T t).size ≠ 0 ∧ (T t).ty.size = (T t).size ∧ (T t).ty.agg = (T t).agg ∧
    ∃ inf z, P.info? t = some inf ∧ inf.zero = some z ∧ ∀ S w, Rep S w (T t).ty (T t).ty.dflt z.cells.toList
  pval : (T t).pure = true → ∃ inf z, P.info? t = some inf ∧ inf.zero = some z ∧ ∀ S w, ValOf S w (T t).ty (T t).ty.dflt z
  guard : ∀ n e, (T t).k = .array n e → P.eqGuardType P.depth t = false
  kind : match (T t).k with
    | .plain => (T t).pure = true ∧ match (T t).ty with
      | .int k => P.underlying t = some (.int k)
      | .bool => P.underlying t = some .bool
      | .str => P.underlying t = some .string
      | _ => True
    | .slice e => P.underlying t = some (.slice e) ∧ (T e).size ≠ 0 ∧ (T t).size = 1 ∧ (T t).agg = false ∧ ((T e).pure = true → (T t).pure = true ∧ (T t).ty = .sl (T e).ty)
    | .array n e => P.underlying t = some (.array n e) ∧ (T e).size ≠ 0 ∧ (T t).agg = true ∧ (T t).size = n * (T e).size ∧ ((T t).pure = true → (T e).pure = true ∧ (T t).ty = .arr n (T e).ty)
    | .struct fs => ∃ fields, P.underlying t = some (.struct fields) ∧ (T t).agg = true ∧ fields.toList.map (fun f => (f.offset, f.type)) = fs ∧ (∀ p ∈ fs, (T p.2).size ≠ 0) ∧
        ((T t).pure = true → (T t).ty.nums = true → P.stoodInHeld t = false ∧ P.eqGuardType P.depth t = false ∧ eqsB P 0 fields.toList (T t).ty = true)
    | .map k v => P.underlying t = some (.map k v) ∧ (T k).size ≠ 0 ∧ (T v).size ≠ 0
    | .other => True
    | .iface => ∃ ms, P.underlying t = some (.interface ms)
    | .ptr e => P.underlying t = some (.pointer e)

section
variable {P : Program} {μ : Nat → Option At} {S : Nat → Prop} {w : World}

/-- An operation has run as the reading says. -/
def OpOk (P : Program) {R : Type} (μ : Nat → Option At) (S : Nat → Prop) (w : World) (a : Act) (o : Oper) (st : St) (K : St → Option R) (r : R) : Prop :=
  ∃ ε nb' x μ' S' w' v nx, K (St.put ⟨st.fr, ε ++ st.bl, nb'⟩ o.dst x) = some r ∧ (execOp a.eval o).run P w = .ok nx w' ∧ (nx = .value v ∨ (nx = .skip ∧ v = undef)) ∧
    StepB μ S w st.bl st.nb μ' S' w' (ε ++ st.bl) nb' ∧ RV μ' S' w' x v

/-- Nothing in memory turns. -/
theorem OpOk.pure {R : Type} {a : Act} {o : Oper} {st : St} {K : St → Option R} {r : R} (hB : SimB μ S w st.bl st.nb) {x : AV} {v : Value} (hK : K (St.put st o.dst x) = some r)
    (hrun : (execOp a.eval o).run P w = .ok (.value v) w) (hv : RV μ S w x v) : OpOk P μ S w a o st K r :=
  ⟨[], st.nb, x, μ, S, w, v, _, hK, hrun, .inl rfl, StepB.refl hB, hv⟩

theorem AV.one_cell {u : AV} {cs : List Value} (h : RX μ S w false u cs) (hg : u.agg = false) : ∃ d, cs = [d] := by
  have hl := RC.length h
  have : u.size = 1 := by
    cases u with
    | dat t x => cases t <;> first | rfl | (simp [AV.agg, Ty.agg] at hg)
    | pr a b => simp [AV.agg] at hg
    | un => simp [AV.agg] at hg
    | _ => rfl
  rw [this] at hl
  match cs, hl with
  | [d], _ => exact ⟨d, rfl⟩

theorem RX.not_cons {u : AV} {cs : List Value} (h : RX μ S w false u cs) : u ≠ .junk ∧ ∀ x y, u ≠ .cons x y := by
  constructor
  · rintro rfl; exact h.elim
  · rintro x y rfl; exact h.elim

/-- A value out of its cells. -/
theorem RV.of_agg {u : AV} {cs : List Value} (h : RX μ S w false u cs) (hg : u.agg = true) : RV μ S w u (.agg cs.toArray) :=
  RV.of (by rw [hg]; exact ⟨cs, rfl, h⟩)
theorem RV.of_one {u : AV} {v : Value} (h : RX μ S w false u [v]) (hg : u.agg = false) : RV μ S w u v := RV.of (by rw [hg]; exact h)

theorem run_sizeOf {T : Nat → TI} {t : Nat} (hT : TiOk P T t) (hs : (T t).size ≠ 0) (w : World) : (sizeOf t).run P w = .ok (T t).size w := by
  obtain ⟨inf, h1, h2, _⟩ := hT.info hs
  simp [sizeOf, typeInfo, h1, h2]

theorem CellsAt.at_add {b o : Nat} {ds : List Value} (h : CellsAt w b o ds) : ∀ j v, ds[j]? = some v → w.cell? ((⟨b, o, none⟩ : Addr).add j) = some v := by
  intro j v hv
  rw [Addr.add_lit]
  exact h j v hv

/-- A variable is read. -/
theorem run_loadVar_ok {T : Nat → TI} {t : Nat} (hT : TiOk P T t) (hs : (T t).size ≠ 0) {b o : Nat} {ds : List Value} (h : CellsAt w b o ds) {u : AV} (hu : RX μ S w false u ds) (hg : u.agg = (T t).agg) (hl : ds.length = (T t).size) :
    ∃ v, (loadVar t ⟨b, o, none⟩).run P w = .ok v w ∧ RV μ S w u v := by
  have ha := hT.agg hs w
  cases hga : (T t).agg with
  | true =>
    rw [hga] at ha
    refine ⟨.agg ds.toArray, ?_, RV.of_agg hu (hg.trans hga)⟩
    have hload := run_loadCells_list (P := P) w ⟨b, o, none⟩ ds h.at_add
    rw [hl] at hload
    simp only [loadVar, Sem.run_bind, ha, Result.andThen_ok, if_true, run_sizeOf hT hs, hload, Sem.run_pure]
  | false =>
    rw [hga] at ha
    obtain ⟨d, rfl⟩ := AV.one_cell hu (hg.trans hga)
    refine ⟨d, ?_, RV.of_one hu (hg.trans hga)⟩
    have hc := h 0 d (by simp)
    simp only [Nat.add_zero] at hc
    simp only [loadVar, Sem.run_bind, ha, Result.andThen_ok, Bool.false_eq_true, if_false, run_load, hc]

/-- A variable's part is written. -/
theorem run_storeVar_ok {T : Nat → TI} {t : Nat} (hT : TiOk P T t) (hs : (T t).size ≠ 0) {b o : Nat} {cs : List Value} {ty : TypeId} (h : w.heap[b]? = some (.cells cs.toArray ty (0, 0)))
    {u : AV} {v : Value} (hv : RV μ S w u v) (hj : u ≠ .junk) (hc : ∀ x y, u ≠ .cons x y) (hsz : u.size = (T t).size) (hfit : o + (T t).size ≤ cs.length) :
    (storeVar t ⟨b, o, none⟩ v).run P w = .ok () (w.setRow b (cs.take o ++ v.cells.toList ++ cs.drop (o + (T t).size)).toArray) ∧ v.cells.toList.length = (T t).size := by
  obtain ⟨h1, _, _⟩ := hv.cells hj hc
  have hl := RC.length h1
  rw [hsz] at hl
  have hl' : v.cells.size = (T t).size := by simpa using hl
  have hst := run_storeCells_at P b o ty v.cells.toList 0 cs.toArray w h (by simp only [Nat.add_zero, Array.length_toList, List.size_toArray, hl']; exact hfit) (RC.one h1)
  refine ⟨?_, hl⟩
  have hne : ¬ (v.cells.size ≠ (T t).size) := by
    have : v.cells.size = (T t).size := by simpa using hl
    simp [this]
  simp only [storeVar, Sem.run_bind, run_sizeOf hT hs, Result.andThen_ok, hne, if_false]
  have e : v.cells.toList.length = (T t).size := hl
  simp only [Nat.add_zero, e] at hst
  simp only [Sem.run_ite, hne, if_false, hst, Sem.run_pure, Result.andThen_ok]

end
end Go.Pv

/- Operations of the reading against the model's: addresses, loads, stores. -/
set_option linter.unusedVariables false
set_option linter.unusedSimpArgs false
namespace Go.Pv

section
variable {P : Program} {T : Nat → TI} {μ : Nat → Option At} {S : Nat → Prop} {w : World}

theorem snth_map {α β : Type} (f : α → β) : ∀ (l : List α) (i : Nat), snth (l.map f) i = (l[i]?).map f
  | [], i => by simp [snth]
  | x :: l, 0 => by simp [snth]
  | x :: l, i + 1 => by simp [snth, snth_map f l i]

/-- A pointer's value says where it points. -/
theorem RV.ptr_inv {k off : Nat} {v : Value} (h : RV μ S w (.ptr k off) v) : ∃ p, μ k = some p ∧ v = .pointer (some ⟨p.b, off, none⟩) := by
  obtain ⟨p, hp, e⟩ := h
  simp only [List.cons.injEq, and_true] at e
  exact ⟨p, hp, e⟩
theorem RV.rptr_inv {k : Nat} {e t : Ty} {g p' v} (h : RV μ S w (.rptr k e t g p') v) : ∃ p δ, μ k = some p ∧ v = .pointer (some ⟨p.b, p.o + δ, none⟩) ∧ LensOk p.n e t g p' δ := by
  obtain ⟨p, δ, hp, e, l⟩ := h
  simp only [List.cons.injEq, and_true] at e
  exact ⟨p, δ, hp, e, l⟩
theorem RV.aptr_inv {k off n : Nat} {e t : Ty} {g p' v} (h : RV μ S w (.aptr k off n e t g p') v) : ∃ p δ, μ k = some p ∧ v = .pointer (some ⟨p.b, off + δ, none⟩) ∧ LensOk n e t g p' δ := by
  obtain ⟨p, δ, hp, e, l⟩ := h
  simp only [List.cons.injEq, and_true] at e
  exact ⟨p, δ, hp, e, l⟩
theorem RV.vptr_inv {k sz i off : Nat} {v : Value} (h : RV μ S w (.vptr k sz i off) v) : ∃ p, μ k = some p ∧ v = .pointer (some ⟨p.b, i * sz + off, none⟩) := by
  obtain ⟨p, hp, e⟩ := h
  simp only [List.cons.injEq, and_true] at e
  exact ⟨p, hp, e⟩
theorem RV.iptr_inv {t : Ty} {x v} (h : RV μ S w (.iptr t x) v) : ∃ b o ds, v = .pointer (some ⟨b, o, none⟩) ∧ S b ∧ CellsAt w b o ds ∧ Rep S w t x ds := by
  obtain ⟨b, o, ds, e, r⟩ := h
  simp only [List.cons.injEq, and_true] at e
  exact ⟨b, o, ds, e, r⟩
theorem RV.own_inv {k : Nat} {v : Value} (h : RV μ S w (.own k) v) : ∃ p, μ k = some p ∧ v = rowVal p := by
  obtain ⟨p, hp, e⟩ := h
  simp only [List.cons.injEq, and_true] at e
  exact ⟨p, hp, e⟩
theorem RV.sl_inv {e : Ty} {xs : List e.den} {v : Value} (h : RV μ S w (.dat (.sl e) xs) v) : ∃ A cap, v = .slice A xs.length cap ∧ xs.length ≤ cap ∧
      (0 < xs.length → ∃ b o ds, A = some ⟨b, o, none⟩ ∧ S b ∧ CellsAt w b o ds ∧ RepRow (Rep S w e) xs ds) := by
  obtain ⟨A, cap, e, r⟩ := h
  simp only [List.cons.injEq, and_true] at e
  exact ⟨A, cap, e, r⟩
theorem RV.int_inv {k : IntKind} {n : Int} {v : Value} (h : RV μ S w (.dat (.int k) n) v) : v = .int k n := by
  have h : Rep S w (.int k) n [v] := h
  rw [Rep] at h
  simpa using h
theorem RV.bool_inv {b : Bool} {v : Value} (h : RV μ S w (.dat .bool b) v) : v = .bool b := by
  have h : Rep S w .bool b [v] := h
  rw [Rep] at h
  simpa using h
theorem RV.str_inv {s : ByteArray} {v : Value} (h : RV μ S w (.dat .str s) v) : v = .string s := by
  have h : Rep S w .str s [v] := h
  rw [Rep] at h
  simpa using h
theorem RV.arr_inv {n : Nat} {e : Ty} {xs : List e.den} {v : Value} (h : RV μ S w (.dat (.arr n e) xs) v) : ∃ cs : List Value, v = .agg cs.toArray ∧ xs.length = n ∧ RepRow (Rep S w e) xs cs := by
  obtain ⟨cs, e, r⟩ := h
  exact ⟨cs, e, r⟩

theorem RV.int (k : IntKind) (n : Int) : RV μ S w (.dat (.int k) n) (.int k n) := RV.of (a := .dat (.int k) n) rfl
theorem RV.bool (b : Bool) : RV μ S w (.dat .bool b) (.bool b) := RV.of (a := .dat .bool b) rfl
theorem RV.str (s : ByteArray) : RV μ S w (.dat .str s) (.string s) := RV.of (a := .dat .str s) rfl

theorem fieldAddr_ok (hT : ∀ t, TiOk P T t) {L : Lib} (hL : L.ti = T) {t f : Nat} {x u : AV} {v : Value} (h : fieldAddrAV L t x f = some u) (hv : RV μ S w x v) :
    ∃ v', (Instr.fieldAt t v f).run P w = .ok v' w ∧ RV μ S w u v' := by
  subst hL
  rw [fieldAddrAV] at h
  have hk := (hT t).kind
  split at h
  case h_2 => cases h
  rename_i fs hks
  rw [hks] at hk
  obtain ⟨fields, hu, _, hf, hsz, _⟩ := hk
  obtain ⟨p, hp, h⟩ := ob_some h
  rw [← hf, snth_map] at hp
  cases hfd : fields.toList[f]? with
  | none => rw [hfd] at hp; cases hp
  | some fd =>
    rw [hfd] at hp
    simp only [Option.map_some, Option.some.injEq] at hp
    have hfd' : fields[f]? = some fd := by rw [← Array.getElem?_toList]; exact hfd
    have hmem : p ∈ fs := by rw [← hf]; exact List.mem_map.2 ⟨fd, List.mem_of_getElem? hfd, hp⟩
    have hne := hsz p hmem
    have e1 : fd.offset = p.1 := by rw [← hp]
    have e2 : fd.type = p.2 := by rw [← hp]
    have hrun : ∀ a : Addr, (Instr.fieldAt t (.pointer (some a)) f).run P w = .ok (.pointer (some (a.add p.1))) w := by
      intro a
      have hs := run_sizeOf (hT p.2) hne w
      simp only [Instr.fieldAt, Sem.run_bind, run_underlying hu, Result.andThen_ok, hfd', Instr.sureAddr, Sem.run_pure, fieldPlace, e1, e2, hs, hne, if_false]
    have add0 : ∀ b o d : Nat, (⟨b, o, none⟩ : Addr).add d = ⟨b, o + d, none⟩ := Addr.add_lit
    split at h
    · cases h
      obtain ⟨q, hq, rfl⟩ := hv.ptr_inv
      exact ⟨_, hrun _, RV.of_one (u := .ptr _ _) ⟨q, hq, by rw [add0]; rfl⟩ rfl⟩
    · cases h
      obtain ⟨q, hq, rfl⟩ := hv.vptr_inv
      exact ⟨_, hrun _, RV.of_one (u := .vptr _ _ _ _) ⟨q, hq, by rw [add0]; simp [Nat.add_assoc]⟩ rfl⟩
    · obtain ⟨l, hl, h⟩ := ob_some h
      cases h
      obtain ⟨q, δ, hq, rfl, lo⟩ := hv.rptr_inv
      exact ⟨_, hrun _, RV.of_one (u := .rptr _ _ _ _ _) ⟨q, δ + p.1, hq, by rw [add0]; simp [Nat.add_assoc], lo.comp (Ty.at_ok hl)⟩ rfl⟩
    · obtain ⟨l, hl, h⟩ := ob_some h
      cases h
      obtain ⟨q, δ, hq, rfl, lo⟩ := hv.aptr_inv
      exact ⟨_, hrun _, RV.of_one (u := .aptr _ _ _ _ _ _ _) ⟨q, δ + p.1, hq, by rw [add0]; simp [Nat.add_assoc], lo.comp (Ty.at_ok hl)⟩ rfl⟩
    · obtain ⟨l, hl, h⟩ := ob_some h
      cases h
      obtain ⟨b, o, ds, rfl, hb, hc, hr⟩ := hv.iptr_inv
      have hi := Ty.at_ok hl
      refine ⟨_, hrun _, RV.of_one (u := .iptr _ _) ⟨b, o + p.1, _, by rw [add0], hb, ?_, hi.get S w _ _ hr⟩ rfl⟩
      intro j d hd
      have : (ds.drop p.1)[j]? = some d := by
        rw [List.getElem?_take] at hd
        split at hd
        · exact hd
        · cases hd
      rw [List.getElem?_drop] at this
      have := hc _ _ this
      simpa [Nat.add_assoc] using this
    · cases h

theorem RepRow.cells_at {e : Ty} {b o : Nat} {xs : List e.den} {ds : List Value} (hc : CellsAt w b o ds) (hr : RepRow (Rep S w e) xs ds) (i : Nat) (hi : i < xs.length) :
    CellsAt w b (o + i * e.size) ((ds.drop (i * e.size)).take e.size) ∧ Rep S w e (xs.getD i e.dflt) ((ds.drop (i * e.size)).take e.size) := by
  refine ⟨?_, RepRow.get (R := Rep S w e) (fun x c h => Rep.length h) e.dflt i hr hi⟩
  intro j d hd
  have : (ds.drop (i * e.size))[j]? = some d := by
    rw [List.getElem?_take] at hd
    split at hd
    · exact hd
    · cases hd
  rw [List.getElem?_drop] at this
  have := hc _ _ this
  simpa [Nat.add_assoc] using this

theorem SimB.row {bl : List (Nat × Blk)} {nb : Nat} (hB : SimB μ S w bl nb) {k : Nat} {e : Ty} {xs : List e.den} {p : At} (hk : lk bl k = some (.row e xs)) (hp : μ k = some p) :
    p.n = xs.length ∧ ((p.nl = true ∧ xs = [] ∧ p.cap = 0) ∨ (p.nl = false ∧ ∃ (cs : List Value) (ty : TypeId), w.heap[p.b]? = some (.cells cs.toArray ty (0, 0)) ∧ xs.length ≤ p.cap ∧ p.cap ≤ maxLen ∧
      p.o + p.cap * e.size ≤ cs.length ∧ RepRow (Rep S w e) xs ((cs.drop p.o).take (xs.length * e.size)))) := by
  obtain ⟨q, hq, hn, hr⟩ := hB.blk k _ hk
  rw [hp] at hq; cases hq
  exact ⟨hn, hr⟩

theorem toNat_lt {i : Int} {n : Nat} (h : 0 ≤ i ∧ i < (n : Int)) : i.toNat < n := by omega

theorem run_indexAt {n : Nat} {et : TypeId} {t : TypeId} (hT : ∀ t, TiOk P T t) (hes : (T et).size ≠ 0) {kk : IntKind} {i : Int} (a : Addr) {v : Value}
    (hu : (P.underlying t = some (.slice et) ∧ ∃ cap, v = .slice (some a) n cap) ∨ (P.underlying t = some (.array n et) ∧ v = .pointer (some a))) (hi : 0 ≤ i ∧ i < (n : Int)) :
    (Instr.indexAt t v (.int kk i)).run P w = .ok (.pointer (some (a.add (i.toNat * (T et).size)))) w := by
  have hs := run_sizeOf (hT et) hes w
  rcases hu with ⟨hu, cap, rfl⟩ | ⟨hu, rfl⟩
  · simp [Instr.indexAt, asIntOf, run_underlying hu, hs, hi]
  · simp [Instr.indexAt, asIntOf, run_underlying hu, hs, hi, Instr.sureAddr]

theorem indexAddr_ok {R : Type} (hT : ∀ t, TiOk P T t) {L : Lib} (hL : L.ti = T) {st : St} (hB : SimB μ S w st.bl st.nb) {t : Nat} {x : AV} {kk : IntKind} {i : Int} {v : Value} {K : AV → Option R} {r : R}
    (h : indexAddrAV L st t x i K = some r) (hv : RV μ S w x v) :
    ∃ u v', K u = some r ∧ (Instr.indexAt t v (.int kk i)).run P w = .ok v' w ∧ RV μ S w u v' := by
  subst hL
  rw [indexAddrAV] at h
  have hk := (hT t).kind
  have condT : ∀ {b : Bool} {o : Option R}, cond b o none = some r → b = true ∧ o = some r := by
    intro b o h; cases b with | true => exact ⟨rfl, h⟩ | false => cases h
  split at h
  -- slices
  · rename_i et hks
    rw [hks] at hk
    obtain ⟨hu, hes, _, _, hpure⟩ := hk
    split at h
    · rename_i k
      obtain ⟨p, hp, rfl⟩ := hv.own_inv
      split at h
      · rename_i e xs hkx
        obtain ⟨hsz, h⟩ := condT h
        have hsz := beq_true hsz
        split at h
        · rename_i hi
          obtain ⟨hn, hr⟩ := hB.row hkx hp
          rcases hr with ⟨_, rfl, _⟩ | ⟨hnl, cs, ty, h1, h2, h3, h4, h5⟩
          · simp at hi; omega
          · refine ⟨_, _, h, run_indexAt (n := p.n) hT hes ⟨p.b, p.o, none⟩ (.inl ⟨hu, p.cap, by rw [rowVal, hnl]; rfl⟩) (by rw [hn]; exact hi), ?_⟩
            exact RV.of_one (u := .rptr _ _ _ _ _) ⟨p, i.toNat * e.size, hp, by rw [Addr.add_lit, ← hsz], LensOk.elem _ _ _ (by rw [hn]; omega)⟩ rfl
        · cases h
      · rename_i n sz vs hkx
        obtain ⟨hsz, h⟩ := condT h
        have hsz := beq_true hsz
        split at h
        · rename_i hi
          obtain ⟨q, hq, hnl, hn, ho, hcap, _⟩ := hB.blk k _ hkx
          rw [hp] at hq; cases hq
          refine ⟨_, _, h, run_indexAt (n := p.n) hT hes ⟨p.b, p.o, none⟩ (.inl ⟨hu, p.cap, by rw [rowVal, hnl]; rfl⟩) (by rw [hn]; exact hi), ?_⟩
          exact RV.of_one (u := .vptr _ _ _ _) ⟨p, hp, by rw [Addr.add_lit, ho, hsz]; simp⟩ rfl
        · cases h
      · cases h
    · rename_i e xs
      obtain ⟨A, cap, rfl, hcap, hx⟩ := hv.sl_inv
      obtain ⟨hsz, h⟩ := condT h
      have hsz := beq_true hsz
      split at h
      · rename_i hi
        have hi' := toNat_lt hi
        obtain ⟨b, o, ds, rfl, hb, hc, hr⟩ := hx (by omega)
        obtain ⟨g1, g2⟩ := RepRow.cells_at hc hr i.toNat hi'
        refine ⟨_, _, h, run_indexAt hT hes ⟨b, o, none⟩ (.inl ⟨hu, cap, rfl⟩) hi, ?_⟩
        exact RV.of_one (u := .iptr _ _) ⟨b, o + i.toNat * e.size, _, by rw [Addr.add_lit, ← hsz], hb, g1, g2⟩ rfl
      · cases h
    · cases h
  -- arrays
  · rename_i n et hks
    rw [hks] at hk
    obtain ⟨hu, hes, _, _, hpure⟩ := hk
    split at h
    · rename_i k off
      obtain ⟨p, hp, rfl⟩ := hv.ptr_inv
      obtain ⟨hpu, h⟩ := condT h
      have hsz := ((hT et).pure hpu).2.1
      split at h
      · rename_i hi
        refine ⟨_, _, h, run_indexAt hT hes ⟨p.b, off, none⟩ (.inr ⟨hu, rfl⟩) hi, ?_⟩
        exact RV.of_one (u := .aptr _ _ _ _ _ _ _) ⟨p, i.toNat * (L.ti et).ty.size, hp, by rw [Addr.add_lit, hsz], LensOk.elem _ _ _ (toNat_lt hi)⟩ rfl
      · cases h
    · rename_i k e0 m e get put
      obtain ⟨p, δ, hp, rfl, lo⟩ := hv.rptr_inv
      obtain ⟨hc, h⟩ := condT h
      obtain ⟨c1, c2, _⟩ := and3_true hc
      have c1 := beq_true c1; have c2 := beq_true c2; subst c2
      split at h
      · rename_i hi
        refine ⟨_, _, h, run_indexAt hT hes ⟨p.b, p.o + δ, none⟩ (.inr ⟨hu, rfl⟩) hi, ?_⟩
        exact RV.of_one (u := .rptr _ _ _ _ _) ⟨p, δ + i.toNat * e.size, hp, by rw [Addr.add_lit, ← c1, Nat.add_assoc], lo.comp (InOk.elem _ _ _ (toNat_lt hi))⟩ rfl
      · cases h
    · rename_i k off l e0 m e get put
      obtain ⟨p, δ, hp, rfl, lo⟩ := hv.aptr_inv
      obtain ⟨hc, h⟩ := condT h
      obtain ⟨c1, c2, _⟩ := and3_true hc
      have c1 := beq_true c1; have c2 := beq_true c2; subst c2
      split at h
      · rename_i hi
        refine ⟨_, _, h, run_indexAt hT hes ⟨p.b, off + δ, none⟩ (.inr ⟨hu, rfl⟩) hi, ?_⟩
        exact RV.of_one (u := .aptr _ _ _ _ _ _ _) ⟨p, δ + i.toNat * e.size, hp, by rw [Addr.add_lit, ← c1, Nat.add_assoc], lo.comp (InOk.elem _ _ _ (toNat_lt hi))⟩ rfl
      · cases h
    · rename_i m e xs
      obtain ⟨b, o, ds, rfl, hb, hc, hr⟩ := hv.iptr_inv
      obtain ⟨hcc, h⟩ := condT h
      obtain ⟨c1, c2, _⟩ := and3_true hcc
      have c1 := beq_true c1; have c2 := beq_true c2; subst c2
      split at h
      · rename_i hi
        obtain ⟨hl, hrow⟩ := hr
        obtain ⟨g1, g2⟩ := RepRow.cells_at hc hrow i.toNat (by have := toNat_lt hi; omega)
        refine ⟨_, _, h, run_indexAt hT hes ⟨b, o, none⟩ (.inr ⟨hu, rfl⟩) hi, ?_⟩
        exact RV.of_one (u := .iptr _ _) ⟨b, o + i.toNat * e.size, _, by rw [Addr.add_lit, ← c1], hb, g1, g2⟩ rfl
      · cases h
    · cases h
  · cases h

end
end Go.Pv

/- Operations of the reading against the model's: loads, stores. -/
set_option linter.unusedVariables false
set_option linter.unusedSimpArgs false
namespace Go.Pv

section
variable {P : Program} {T : Nat → TI} {μ : Nat → Option At} {S : Nat → Prop} {w : World}

theorem condT {α : Type} {b : Bool} {o : Option α} {r : α} (h : cond b o none = some r) : b = true ∧ o = some r := by
  cases b with | true => exact ⟨rfl, h⟩ | false => cases h
theorem condF {α : Type} {b : Bool} {o : Option α} {r : α} (h : cond b none o = some r) : b = false ∧ o = some r := by
  cases b with | false => exact ⟨rfl, h⟩ | true => cases h
theorem beq_false {a b : Nat} (h : Nat.beq a b = false) : a ≠ b := by
  rintro rfl; simp at h

theorem RVals.nth {sz : Nat} : ∀ {vs : AV} {i : Nat} {v : AV} {cs : List Value}, vs.nth i = some v → RVals μ S w sz vs cs → RX μ S w false v ((cs.drop (i * sz)).take sz) := by
  intro vs
  induction vs with
  | cons a b iha ihb =>
    intro i v cs h hr
    obtain ⟨c, r, e, hl, h1, h2⟩ := hr
    cases i with
    | zero =>
      rw [AV.nth] at h; cases h
      rw [Nat.zero_mul, List.drop_zero, e, List.take_append_of_le_length (by omega), List.take_of_length_le (by omega)]
      exact h1
    | succ i =>
      rw [AV.nth] at h
      have := ihb h h2
      have e1 : (i + 1) * sz = sz + i * sz := by rw [Nat.add_mul, Nat.one_mul, Nat.add_comm]
      have e2 : (c ++ r).drop (sz + i * sz) = r.drop (i * sz) := by
        rw [List.drop_append, List.drop_of_length_le (by omega), hl, Nat.add_sub_cancel_left, List.nil_append]
      rw [e, e1, e2]
      exact this
  | _ => intro i v cs h; cases i <;> simp [AV.nth] at h

theorem CellsAt.sub {b o : Nat} {ds : List Value} (h : CellsAt w b o ds) (k n : Nat) : CellsAt w b (o + k) ((ds.drop k).take n) := by
  intro j d hd
  have : (ds.drop k)[j]? = some d := by
    rw [List.getElem?_take] at hd
    split at hd
    · exact hd
    · cases hd
  rw [List.getElem?_drop] at this
  have := h _ _ this
  simpa [Nat.add_assoc] using this

theorem CellsAt.heap {b : Nat} {cs : List Value} {ty : TypeId} {fr : Nat × Nat} (h : w.heap[b]? = some (.cells cs.toArray ty fr)) : CellsAt w b 0 cs := by
  have := CellsAt.of_heap (w := w) h 0 cs.length
  simpa using this

theorem AV.dat_agg (t : Ty) (x : t.den) : (AV.dat t x).agg = t.agg := rfl

theorem load_ok (hT : ∀ t, TiOk P T t) {L : Lib} (hL : L.ti = T) {st : St} (hB : SimB μ S w st.bl st.nb) {t : Nat} {x u : AV} {v : Value} (h : loadAV L st t x = some u) (hv : RV μ S w x v) :
    ∃ v', (Instr.loadAt t v).run P w = .ok v' w ∧ RV μ S w u v' ∧ u ≠ .junk ∧ ∀ x y, u ≠ .cons x y := by
  subst hL
  unfold loadAV at h
  obtain ⟨hsz, h⟩ := condF h
  have hsz := beq_false hsz
  have fin : ∀ {b o : Nat} {ds : List Value}, CellsAt w b o ds → RX μ S w false u ds → u.agg = (L.ti t).agg → ds.length = (L.ti t).size →
      ∃ v', (Instr.loadAt t (.pointer (some ⟨b, o, none⟩))).run P w = .ok v' w ∧ RV μ S w u v' ∧ u ≠ .junk ∧ ∀ x y, u ≠ .cons x y := by
    intro b o ds hc hu hg hl
    obtain ⟨v', h1, h2⟩ := run_loadVar_ok (hT t) hsz hc hu hg hl
    exact ⟨v', by simp only [Instr.loadAt, Instr.sureAddr, Sem.run_bind, Sem.run_pure, Result.andThen_ok, h1], h2, hu.not_cons.1, hu.not_cons.2⟩
  have pureT : (L.ti t).pure = true → ∀ s, Ty.same s (L.ti t).ty ≠ none → s.size = (L.ti t).size ∧ s.agg = (L.ti t).agg := by
    intro hp s hs
    cases hh : Ty.same s (L.ti t).ty with
    | none => exact absurd hh hs
    | some k => obtain ⟨_, h1, h2, _⟩ := (hT t).pure hp; rw [k.out]; exact ⟨h1, h2⟩
  cases x with
  | ptr k off =>
    dsimp only at h
    obtain ⟨p, hp, rfl⟩ := hv.ptr_inv
    split at h
    · rename_i v0 hk
      obtain ⟨q, hq, hnl, cs, ty, hh, hc⟩ := hB.blk k _ hk
      rw [hp] at hq; cases hq
      obtain ⟨g1, g2, g3, g4⟩ := AV.sub_ok h hc
      have := (CellsAt.heap hh).sub off (L.ti t).size
      rw [Nat.zero_add] at this
      exact fin this g1 g2 (by simp; omega)
    · cases h
  | vptr k sz i off =>
    dsimp only at h
    obtain ⟨p, hp, rfl⟩ := hv.vptr_inv
    split at h
    · rename_i n sz' vs hk
      obtain ⟨hs, h2⟩ := condT h
      clear h
      have hs := beq_true hs
      subst hs
      obtain ⟨v0, hv0, h⟩ := ob_some h2
      obtain ⟨q, hq, hnl, hn, ho, hcap, cs, ty, hh, hc⟩ := hB.blk k _ hk
      rw [hp] at hq; cases hq
      have hr := RVals.nth hv0 hc
      obtain ⟨g1, g2, g3, g4⟩ := AV.sub_ok h hr
      have := ((CellsAt.heap hh).sub (i * sz) sz).sub off (L.ti t).size
      rw [Nat.zero_add] at this
      exact fin this g1 g2 (by have := RC.length g1; rw [this, g3])
    · cases h
  | rptr k e s get put =>
    dsimp only at h
    obtain ⟨p, δ, hp, rfl, lo⟩ := hv.rptr_inv
    obtain ⟨hpu, h⟩ := condT h
    split at h
    · rename_i e' xs hk
      split at h
      · rename_i hs1 hs2 k1 k2
        cases hs1 with
        | mk hs1 =>
        cases hs1
        cases h
        obtain ⟨hn, hr⟩ := hB.row hk hp
        obtain ⟨z1, z2⟩ := pureT hpu s (by rw [k2]; simp)
        rcases hr with ⟨_, rfl, _⟩ | ⟨hnl, cs, ty, h1, h2, h3, h4, h5⟩
        · have := lo.fits; have := ((hT t).pure hpu).1; rw [hn] at *; simp at *; omega
        · have g := lo.get S w xs _ hn.symm h5
          have hcell := ((CellsAt.heap h1).sub p.o (xs.length * e.size)).sub δ s.size
          rw [Nat.zero_add] at hcell
          exact fin hcell g (by rw [AV.dat_agg]; exact z2) ((Rep.length g).trans z1)
      · cases h
    · cases h
  | aptr k off n e s get put =>
    dsimp only at h
    obtain ⟨p, δ, hp, rfl, lo⟩ := hv.aptr_inv
    obtain ⟨hpu, h⟩ := condT h
    split at h
    · rename_i v0 hk
      obtain ⟨a0, ha0, h⟩ := ob_some h
      split at h
      · rename_i u0 xs
        split at h
        · rename_i hs1 hs2 k1 k2
          cases hs1 with
          | mk hs1 =>
          cases hs1
          cases h
          obtain ⟨q, hq, hnl, cs, ty, hh, hc⟩ := hB.blk k _ hk
          rw [hp] at hq; cases hq
          obtain ⟨g1, g2, g3, g4⟩ := AV.sub_ok ha0 hc
          obtain ⟨z1, z2⟩ := pureT hpu s (by rw [k2]; simp)
          obtain ⟨hl, hrow⟩ := g1
          have g := lo.get S w xs _ hl hrow
          have hcell := ((CellsAt.heap hh).sub off (n * e.size)).sub δ s.size
          rw [Nat.zero_add] at hcell
          exact fin hcell g (by rw [AV.dat_agg]; exact z2) ((Rep.length g).trans z1)
        · cases h
      · cases h
    · cases h
  | iptr s y =>
    dsimp only at h
    obtain ⟨b, o, ds, rfl, hb, hc, hr⟩ := hv.iptr_inv
    obtain ⟨hpu, h⟩ := condT h
    split at h
    · rename_i hs2 k2
      cases h
      obtain ⟨z1, z2⟩ := pureT hpu s (by rw [k2]; simp)
      exact fin hc hr (by rw [AV.dat_agg]; exact z2) ((Rep.length hr).trans z1)
    · cases h
  | _ => cases h

theorem has_false {l : List Nat} {k : Nat} (h : has l k = false) : k ∉ l := by
  induction l with
  | nil => simp
  | cons j r ih =>
    rw [has] at h
    cases hb : Nat.beq j k with
    | true => rw [hb] at h; cases h
    | false =>
      rw [hb] at h
      simp only [List.mem_cons, not_or]
      exact ⟨fun e => beq_false hb e.symm, ih h⟩

theorem lk_kill_not {ks : List Nat} {bl : List (Nat × Blk)} {k : Nat} {x : Blk} (h : lk bl k = some x) (hk : k ∉ ks) : lk (kill ks bl) k = some x := by
  induction ks with
  | nil => exact h
  | cons j r ih =>
    simp only [List.mem_cons, not_or] at hk
    rw [kill, lk_cons, if_neg (fun e => hk.1 e.symm)]
    exact ih hk.2

theorem kill_app (ks : List Nat) (bl : List (Nat × Blk)) : ∃ ε, kill ks bl = ε ++ bl := by
  induction ks with
  | nil => exact ⟨[], rfl⟩
  | cons j r ih => obtain ⟨ε, h⟩ := ih; exact ⟨(j, .dead) :: ε, by rw [kill, h]; rfl⟩

theorem seg_put (cs c : List Value) (o δ n s : Nat) (hl : c.length = s) (hf : δ + s ≤ n) (ho : o + n ≤ cs.length) :
    ((cs.take (o + δ) ++ c ++ cs.drop (o + δ + s)).drop o).take n = ((cs.drop o).take n).take δ ++ c ++ ((cs.drop o).take n).drop (δ + s) := by
  have e1 : (cs.take (o + δ) ++ c ++ cs.drop (o + δ + s)).drop o = (cs.drop o).take δ ++ (c ++ cs.drop (o + δ + s)) := by
    rw [List.append_assoc, List.drop_append_of_le_length (by simp; omega), List.drop_take]
    congr 2; omega
  have e2 : ((cs.drop o).take n).take δ = (cs.drop o).take δ := by rw [List.take_take, Nat.min_eq_left (by omega)]
  have e3 : ((cs.drop o).take n).drop (δ + s) = (cs.drop (o + δ + s)).take (n - δ - s) := by
    rw [List.drop_take, List.drop_drop]
    congr 1
    · omega
    · congr 1; omega
  have l1 : ((cs.drop o).take δ).length = δ := by simp; omega
  have t1 : ((cs.drop o).take δ).take n = (cs.drop o).take δ := List.take_of_length_le (by omega)
  have t2 : c.take (n - δ) = c := List.take_of_length_le (by omega)
  rw [e1, e2, e3, List.take_append, t1, l1, List.take_append, t2, hl, List.append_assoc]

theorem setRow_facts {w : World} {b : Nat} {cs : List Value} {ty : TypeId} (h : w.heap[b]? = some (.cells cs.toArray ty (0, 0))) (ds : List Value) :
    (w.setRow b ds.toArray).heap[b]? = some (.cells ds.toArray ty (0, 0)) ∧ (∀ i, i ≠ b → (w.setRow b ds.toArray).heap[i]? = w.heap[i]?) ∧ (w.setRow b ds.toArray).heap.size = w.heap.size :=
  ⟨setRow_heap w b _ _ ty _ h, fun i hi => setRow_other w b i _ hi, size_setRow w b _⟩

theorem store_ok (hT : ∀ t, TiOk P T t) {L : Lib} (hL : L.ti = T) {st st' : St} (hB : SimB μ S w st.bl st.nb) {t : Nat} {x u : AV} {v y : Value} (h : storeAV L st t x u = some st') (hv : RV μ S w x v)
    (hy : RV μ S w u y) (hj : u ≠ .junk) (hc : ∀ x y, u ≠ .cons x y) :
    ∃ ε S' w', st' = ⟨st.fr, ε ++ st.bl, st.nb⟩ ∧ (Instr.storeAt t v y).run P w = .ok () w' ∧ StepB μ S w st.bl st.nb μ S' w' (ε ++ st.bl) st.nb := by
  subst hL
  unfold storeAV at h
  obtain ⟨hsz, h⟩ := condF h
  have hsz := beq_false hsz
  have pureT : (L.ti t).pure = true → ∀ s, Ty.same s (L.ti t).ty ≠ none → s.size = (L.ti t).size ∧ s.agg = (L.ti t).agg := by
    intro hp s hs
    cases hh : Ty.same s (L.ti t).ty with
    | none => exact absurd hh hs
    | some k => obtain ⟨_, h1, h2, _⟩ := (hT t).pure hp; rw [k.out]; exact ⟨h1, h2⟩
  have run : ∀ {a : Addr} {w'}, (loadVar t a).run P w = (loadVar t a).run P w → (storeVar t a y).run P w = .ok () w' → (Instr.storeAt t (.pointer (some a)) y).run P w = .ok () w' := by
    intro a w' _ hr
    simp only [Instr.storeAt, Instr.sureAddr, Sem.run_bind, Sem.run_pure, Result.andThen_ok, hr]
  cases x with
  | ptr k off =>
    dsimp only at h
    obtain ⟨p, hp, rfl⟩ := hv.ptr_inv
    split at h
    · rename_i v0 hk
      obtain ⟨hcc, h⟩ := condT h
      obtain ⟨u', hu', h⟩ := ob_some h
      cases h
      obtain ⟨c1, c2⟩ := Bool.and_eq_true_iff.1 hcc
      have c1 := beq_true c1
      obtain ⟨q, hq, hnl, cs, ty, hh, hcs⟩ := hB.blk k _ hk
      rw [hp] at hq; cases hq
      obtain ⟨d1, _, _⟩ := hy.cells hj hc
      have hl := RC.length d1
      obtain ⟨g1, g2, g3⟩ := AV.upd_ok d1 (hl.trans c1) (beqB_true c2) hu' hcs
      obtain ⟨r1, r2⟩ := run_storeVar_ok (hT t) hsz hh hy hj hc c1 g3
      obtain ⟨f1, f2, f3⟩ := setRow_facts hh (cs.take off ++ y.cells.toList ++ cs.drop (off + (L.ti t).size))
      have hS : ∀ b, S b → (w.setRow p.b (cs.take off ++ y.cells.toList ++ cs.drop (off + (L.ti t).size)).toArray).heap[b]? = w.heap[b]? :=
        fun b hb => f2 b (fun e => (hB.old _ ⟨k, _, p, hk, by simp, hp, hnl, rfl⟩).2 (e ▸ hb))
      refine ⟨[(k, .box u')], S, _, rfl, run rfl r1, StepB.write hB hk (by simp) hp hnl rfl rfl ⟨rfl, Nat.le_refl _⟩ f3 f2 ?_⟩
      exact ⟨p, hp, hnl, _, ty, f1, RX.move (fun _ _ h => h) (fun _ h => h) hS g1⟩
    · cases h
  | rptr k e s get put =>
    dsimp only at h
    obtain ⟨p, δ, hp, rfl, lo⟩ := hv.rptr_inv
    obtain ⟨hpu, h⟩ := condT h
    split at h
    · rename_i e' xs hk
      split at h
      · rename_i hs1 hs2 k1 k2
        cases hs1 with
        | mk hs1 =>
        cases hs1
        obtain ⟨⟨y0, ks⟩, hy0, h⟩ := ob_some h
        obtain ⟨hks, h⟩ := condF h
        have hks := has_false hks
        cases h
        obtain ⟨z1, z2⟩ := pureT hpu s (by rw [k2]; simp)
        obtain ⟨d1, _, _⟩ := hy.cells hj hc
        have stepK := StepB.kill hB ks
        obtain ⟨t1, t2⟩ := AV.take_ok hB hy0 d1 (S' := fun b => S b ∨ Of μ st.bl ks b) (fun b hb => .inl hb) (fun b hb => .inr hb)
        have hk' := lk_kill_not hk hks
        obtain ⟨hn, hr⟩ := stepK.1.row hk' hp
        rcases hr with ⟨_, rfl, _⟩ | ⟨hnl, cs, ty, h1, h2, h3, h4, h5⟩
        · have := lo.fits; have := ((hT t).pure hpu).1; rw [hn] at *; simp at *; omega
        · have hl := Rep.length t1
          have hfit := lo.fits
          have hcapn : xs.length * e.size ≤ p.cap * e.size := Nat.mul_le_mul_right _ h2
          have hus : u.size = (L.ti t).size := by rw [← RC.length d1, hl, z1]
          obtain ⟨r1, r2⟩ := run_storeVar_ok (o := p.o + δ) (hT t) hsz h1 hy hj hc hus (by rw [← z1]; rw [hn] at hfit; omega)
          rw [← z1] at r1 r2
          obtain ⟨f1, f2, f3⟩ := setRow_facts h1 (cs.take (p.o + δ) ++ y.cells.toList ++ cs.drop (p.o + δ + s.size))
          have hS : ∀ b, (S b ∨ Of μ st.bl ks b) → (w.setRow p.b (cs.take (p.o + δ) ++ y.cells.toList ++ cs.drop (p.o + δ + s.size)).toArray).heap[b]? = w.heap[b]? :=
            fun b hb => f2 b (fun e => (stepK.1.old _ ⟨k, _, p, hk', by simp, hp, hnl, rfl⟩).2 (e ▸ hb))
          have hput := lo.put _ w xs _ y0 _ hn.symm h5 t1
          obtain ⟨ε, hε⟩ := kill_app ks st.bl
          have stepW := StepB.write (p := p) stepK.1 hk' (by simp) hp hnl (w' := w.setRow p.b (cs.take (p.o + δ) ++ y.cells.toList ++ cs.drop (p.o + δ + s.size)).toArray) (x' := .row e (put xs y0)) rfl rfl ⟨rfl, Nat.le_refl _⟩ f3 f2
            ⟨p, hp, (lo.len xs y0 hn.symm).symm, .inr ⟨hnl, _, ty, f1, by rw [lo.len xs y0 hn.symm, hn]; exact h2, h3, by simp [r2]; rw [hn] at hfit; omega, by
              have e1 : (put xs y0).length * e.size = xs.length * e.size := by rw [lo.len xs y0 hn.symm, hn]
              rw [e1, seg_put cs _ p.o δ _ s.size r2 (by rw [hn] at hfit; exact hfit) (by omega)]
              exact RepRow.imp (fun x c h => Rep.move (fun _ h => h) hS h) hput⟩⟩
          refine ⟨(k, .row e (put xs y0)) :: ε, (fun b => S b ∨ Of μ st.bl ks b), _, ?_, run rfl r1, ?_⟩
          · rw [hε]; rfl
          · have := stepK.trans stepW
            rw [hε] at this
            exact this
      · cases h
    · cases h
  | aptr k off n e s get put =>
    dsimp only at h
    obtain ⟨p, δ, hp, rfl, lo⟩ := hv.aptr_inv
    obtain ⟨hpu, h⟩ := condT h
    split at h
    · rename_i v0 hk
      obtain ⟨a0, ha0, h⟩ := ob_some h
      split at h
      · rename_i u0 xs
        split at h
        · rename_i hs1 hs2 k1 k2
          cases hs1 with
          | mk hs1 =>
          cases hs1
          obtain ⟨⟨y0, ks⟩, hy0, h⟩ := ob_some h
          obtain ⟨u', hu', h⟩ := ob_some h
          obtain ⟨hks, h⟩ := condF h
          have hks := has_false hks
          cases h
          obtain ⟨z1, z2⟩ := pureT hpu s (by rw [k2]; simp)
          obtain ⟨d1, _, _⟩ := hy.cells hj hc
          have stepK := StepB.kill hB ks
          obtain ⟨t1, t2⟩ := AV.take_ok hB hy0 d1 (S' := fun b => S b ∨ Of μ st.bl ks b) (fun b hb => .inl hb) (fun b hb => .inr hb)
          have hk' := lk_kill_not hk hks
          obtain ⟨q, hq, hnl, cs, ty, hh, hcs⟩ := stepK.1.blk k _ hk'
          rw [hp] at hq; cases hq
          obtain ⟨g1, g2, g3, g4⟩ := AV.sub_ok ha0 hcs
          have g4 : off + n * e.size ≤ cs.length := g4
          obtain ⟨hl, hrow⟩ := g1
          have hput := lo.put _ w xs _ y0 _ hl hrow t1
          have hfit := lo.fits
          have hls := Rep.length t1
          have hus : u.size = (L.ti t).size := by rw [← RC.length d1, hls, z1]
          obtain ⟨r1, r2⟩ := run_storeVar_ok (o := off + δ) (hT t) hsz hh hy hj hc hus (by rw [← z1]; omega)
          rw [← z1] at r1 r2
          have hnew : RX μ (fun b => S b ∨ Of μ st.bl ks b) w false (.dat (.arr n e) (put xs y0)) (((cs.drop off).take (n * e.size)).take δ ++ y.cells.toList ++ ((cs.drop off).take (n * e.size)).drop (δ + s.size)) :=
            ⟨lo.len xs y0 hl, hput⟩
          have hll := RC.length hnew
          obtain ⟨b1, b2, b3⟩ := AV.upd_ok hnew hll rfl hu' hcs
          have hcells : cs.take off ++ (((cs.drop off).take (n * e.size)).take δ ++ y.cells.toList ++ ((cs.drop off).take (n * e.size)).drop (δ + s.size)) ++ cs.drop (off + n * e.size) =
              cs.take (off + δ) ++ y.cells.toList ++ cs.drop (off + δ + s.size) := by
            have a1 : ((cs.drop off).take (n * e.size)).take δ = (cs.drop off).take δ := by rw [List.take_take, Nat.min_eq_left (by omega)]
            have a2 : ((cs.drop off).take (n * e.size)).drop (δ + s.size) ++ cs.drop (off + n * e.size) = cs.drop (off + δ + s.size) := by
              rw [List.drop_take, List.drop_drop]
              have : cs.drop (off + n * e.size) = (cs.drop (off + (δ + s.size))).drop (n * e.size - (δ + s.size)) := by
                rw [List.drop_drop]; congr 1; omega
              rw [this, List.take_append_drop]; congr 1; omega
            have a3 : cs.take off ++ (cs.drop off).take δ = cs.take (off + δ) := by rw [List.take_add]
            rw [a1]
            simp only [List.append_assoc]
            rw [a2, ← List.append_assoc, a3]
          have e0 : Nat.mul n e.size = n * e.size := rfl
          have e9 : (AV.dat (.arr n e) (put xs y0)).size = n * e.size := rfl
          rw [e9, hcells] at b1
          obtain ⟨f1, f2, f3⟩ := setRow_facts hh (cs.take (off + δ) ++ y.cells.toList ++ cs.drop (off + δ + s.size))
          have hS : ∀ b, (S b ∨ Of μ st.bl ks b) → (w.setRow p.b (cs.take (off + δ) ++ y.cells.toList ++ cs.drop (off + δ + s.size)).toArray).heap[b]? = w.heap[b]? :=
            fun b hb => f2 b (fun e => (stepK.1.old _ ⟨k, _, p, hk', by simp, hp, hnl, rfl⟩).2 (e ▸ hb))
          obtain ⟨ε, hε⟩ := kill_app ks st.bl
          have stepW := StepB.write (p := p) stepK.1 hk' (by simp) hp hnl (w' := w.setRow p.b (cs.take (off + δ) ++ y.cells.toList ++ cs.drop (off + δ + s.size)).toArray) (x' := .box u') rfl rfl ⟨rfl, Nat.le_refl _⟩ f3 f2
            ⟨p, hp, hnl, _, ty, f1, RX.move (fun _ _ h => h) (fun _ h => h) hS b1⟩
          refine ⟨(k, .box u') :: ε, (fun b => S b ∨ Of μ st.bl ks b), _, ?_, run rfl r1, ?_⟩
          · rw [hε]; rfl
          · have := stepK.trans stepW
            rw [hε] at this
            exact this
        · cases h
      · cases h
    · cases h
  | _ => cases h

end
end Go.Pv

/- Operations of the reading against the model's: numbers, new blocks, slices. -/
set_option linter.unusedVariables false
set_option linter.unusedSimpArgs false
namespace Go.Pv

section
variable {P : Program} {T : Nat → TI} {μ : Nat → Option At} {S : Nat → Prop} {w : World}

theorem binI_ok {R : Type} {op : BinOp} {k : IntKind} {x y : Int} {K : AV → Option R} {r : R} (h : binI op k x y K = some r) :
    ∃ u v, K u = some r ∧ (binOp op 0 (.int k x) (.int k y)).run P w = .ok v w ∧ (∀ t, (binOp op t (.int k x) (.int k y)).run P w = .ok v w) ∧ RV μ S w u v := by
  cases op <;> simp only [binI] at h
  case quo =>
    split at h
    · cases h
    · rename_i hy
      exact ⟨_, _, h, by simp [binOp, Op.intDiv, hy], fun t => by simp [binOp, Op.intDiv, hy], RV.int _ _⟩
  case rem =>
    split at h
    · cases h
    · rename_i hy
      exact ⟨_, _, h, by simp [binOp, Op.intDiv, hy], fun t => by simp [binOp, Op.intDiv, hy], RV.int _ _⟩
  case add => exact ⟨_, _, h, by simp [binOp, Op.intArith], fun t => by simp [binOp, Op.intArith], RV.int _ _⟩
  case sub => exact ⟨_, _, h, by simp [binOp, Op.intArith], fun t => by simp [binOp, Op.intArith], RV.int _ _⟩
  case mul => exact ⟨_, _, h, by simp [binOp, Op.intArith], fun t => by simp [binOp, Op.intArith], RV.int _ _⟩
  case and => exact ⟨_, _, h, by simp [binOp, Op.intBits], fun t => by simp [binOp, Op.intBits], RV.int _ _⟩
  case or => exact ⟨_, _, h, by simp [binOp, Op.intBits], fun t => by simp [binOp, Op.intBits], RV.int _ _⟩
  case eql => exact ⟨_, _, h, by simp [binOp, Op.intCmp], fun t => by simp [binOp, Op.intCmp], RV.bool _⟩
  case neq => exact ⟨_, _, h, by simp [binOp, Op.intCmp], fun t => by simp [binOp, Op.intCmp], RV.bool _⟩
  case lss => exact ⟨_, _, h, by simp [binOp, Op.intCmp], fun t => by simp [binOp, Op.intCmp], RV.bool _⟩
  case leq => exact ⟨_, _, h, by simp [binOp, Op.intCmp], fun t => by simp [binOp, Op.intCmp], RV.bool _⟩
  case gtr => exact ⟨_, _, h, by simp [binOp, Op.intCmp], fun t => by simp [binOp, Op.intCmp], RV.bool _⟩
  case geq => exact ⟨_, _, h, by simp [binOp, Op.intCmp], fun t => by simp [binOp, Op.intCmp], RV.bool _⟩
  all_goals cases h

theorem shiftI_ok {R : Type} {op : BinOp} {j k : IntKind} {x y : Int} {K : AV → Option R} {r : R} (hop : op = .shl ∨ op = .shr) (h : shiftI op j x y K = some r) :
    ∃ u v, K u = some r ∧ (∀ t, (binOp op t (.int j x) (.int k y)).run P w = .ok v w) ∧ RV μ S w u v := by
  unfold shiftI at h
  split at h
  · cases h
  · rename_i hy
    rcases hop with rfl | rfl
    · exact ⟨_, _, h, fun t => by simp [binOp, Op.shift, hy], RV.int _ _⟩
    · exact ⟨_, _, h, fun t => by simp [binOp, Op.shift, hy], RV.int _ _⟩

theorem StepB.box {bl : List (Nat × Blk)} {nb : Nat} (hB : SimB μ S w bl nb) {u : AV} {v : Value} (hv : RV μ S w u v) (hj : u ≠ .junk) (hc : ∀ x y, u ≠ .cons x y) (t : TypeId) :
    ∃ p, StepB μ S w bl nb (upd μ nb p) S (w.alloc (.cells v.cells t)) ((nb, .box u) :: bl) (nb + 1) ∧ p.b = w.heap.size := by
  obtain ⟨h1, _, _⟩ := hv.cells hj hc
  refine ⟨⟨w.heap.size, 0, 0, 0, false⟩, ?_, rfl⟩
  have hold : ∀ b, b < w.heap.size → (w.alloc (.cells v.cells t)).heap[b]? = w.heap[b]? := fun b hb => heap_alloc_old w _ b hb
  have hmu : ∀ k q, μ k = some q → upd μ nb ⟨w.heap.size, 0, 0, 0, false⟩ k = some q := fun k q hk => upd_old hk (fun e => by have := hB.dom k q hk; omega)
  refine StepB.new hB rfl rfl rfl rfl ⟨rfl, Nat.le_refl _⟩ (by simp) hold ?_
  refine ⟨_, upd_self _ _ _, rfl, v.cells.toList, t, ?_, RX.move hmu (fun _ h => h) (fun b hb => hold b (hB.sb b hb)) h1⟩
  rw [heap_alloc_new w]

/-- A new row. -/
theorem StepB.row {bl : List (Nat × Blk)} {nb : Nat} (hB : SimB μ S w bl nb) {e : Ty} {xs : List e.den} {cs : List Value} {cap : Nat} {w' : World} {t : TypeId} {fill : List Value}
    (hheap : w'.heap = w.heap.push (.cells (cs ++ fill).toArray t)) (hos : w'.os = w.os) (htape : w'.tape = w.tape) (hout : OutOk w w')
    (hr : RepRow (Rep S w e) xs cs) (hcap : xs.length ≤ cap) (hm : cap ≤ maxLen) (hfit : cap * e.size ≤ (cs ++ fill).length) :
    StepB μ S w bl nb (upd μ nb ⟨w.heap.size, xs.length, 0, cap, false⟩) S w' ((nb, .row e xs) :: bl) (nb + 1) := by
  have hold : ∀ b, b < w.heap.size → w'.heap[b]? = w.heap[b]? := fun b hb => by rw [hheap, Array.getElem?_push, if_neg (by omega)]
  have hl := RepRow.length (n := e.size) (fun x c h => Rep.length h) hr
  refine StepB.new hB rfl rfl hos htape hout (by rw [hheap]; simp) hold ?_
  refine ⟨_, upd_self _ _ _, rfl, .inr ⟨rfl, cs ++ fill, t, ?_, hcap, hm, by rw [Nat.zero_add]; exact hfit, ?_⟩⟩
  · rw [hheap]; simp
  · rw [List.drop_zero, ← hl, List.take_left]
    exact hr.imp fun x c h => Rep.move (fun _ h => h) (fun b hb => hold b (hB.sb b hb)) h

theorem RV.own_new (k : Nat) (p : At) : RV (upd μ k p) S w (.own k) (rowVal p) := RV.of_one (u := .own k) ⟨p, upd_self _ _ _, rfl⟩ rfl

/-- A slice's data are there. -/
theorem rowOf_ok {st : St} (hB : SimB μ S w st.bl st.nb) {e : Ty} {x : AV} {xs : List e.den} {v : Value} (h : rowOf st e x = some xs) (hv : RV μ S w x v) :
    ∃ A cap, v = .slice A xs.length cap ∧ xs.length ≤ cap ∧ (xs.length = 0 ∨ ∃ b o ds, A = some ⟨b, o, none⟩ ∧ CellsAt w b o ds ∧ RepRow (Rep S w e) xs ds) := by
  unfold rowOf at h
  cases x with
  | own k =>
    dsimp only at h
    split at h
    · rename_i e' ys hk
      split at h
      · rename_i hs ks
        cases hs with
        | mk hs =>
        cases hs
        cases h
        obtain ⟨p, hp, rfl⟩ := hv.own_inv
        obtain ⟨hn, hr⟩ := hB.row hk hp
        rcases hr with ⟨hnl, rfl, hcap⟩ | ⟨hnl, cs, ty, h1, h2, h3, h4, h5⟩
        · exact ⟨none, p.cap, by rw [rowVal, hnl, hn]; rfl, Nat.zero_le _, .inl rfl⟩
        · exact ⟨some ⟨p.b, p.o, none⟩, p.cap, by rw [rowVal, hnl, hn]; rfl, h2, .inr ⟨p.b, p.o, _, rfl, CellsAt.of_heap h1 _ _, h5⟩⟩
      · cases h
    · cases h
  | nil =>
    cases h
    have hv : RX μ S w false .nil [v] := hv
    rw [RX] at hv
    simp only [List.cons.injEq, and_true] at hv
    exact ⟨none, 0, hv, Nat.le_refl _, .inl rfl⟩
  | dat t ys =>
    cases t with
    | sl e' =>
      dsimp only at h
      split at h
      · rename_i hs ks
        cases hs with
        | mk hs =>
        cases hs
        cases h
        obtain ⟨A, cap, rfl, hcap, hx⟩ := hv.sl_inv
        refine ⟨A, cap, rfl, hcap, ?_⟩
        rcases Nat.eq_zero_or_pos ys.length with h0 | h0
        · exact .inl h0
        · obtain ⟨b, o, ds, h1, _, h2, h3⟩ := hx h0
          exact .inr ⟨b, o, ds, h1, h2, h3⟩
      · cases h
    | _ => cases h
  | _ => cases h

end
end Go.Pv

/- Operations of the reading against the model's: append, slice expressions, make. -/
set_option linter.unusedVariables false
set_option linter.unusedSimpArgs false
namespace Go.Pv

section
variable {P : Program} {T : Nat → TI} {μ : Nat → Option At} {S : Nat → Prop} {w : World} {bl : List (Nat × Blk)} {nb : Nat}

/-- A row is taken over under a new number; its block may turn. -/
theorem StepB.turn (h : SimB μ S w bl nb) {w' : World} {k : Nat} {p p' : At} {x x' : Blk} (hk : lk bl k = some x) (hx : x ≠ .dead) (hp : μ k = some p) (hnl : p.nl = false) (hb : p'.b = p.b) (hnl' : p'.nl = false)
    (hos : w'.os = w.os) (htape : w'.tape = w.tape) (hout : OutOk w w') (hsize : w'.heap.size = w.heap.size) (hold : ∀ b, b ≠ p.b → w'.heap[b]? = w.heap[b]?)
    (hx' : RB (upd μ nb p') S w' nb x') : StepB μ S w bl nb (upd μ nb p') S w' ((nb, x') :: (k, .dead) :: bl) (nb + 1) := by
  have hne : ∀ k q, μ k = some q → k ≠ nb := fun k q hk e => by have := h.dom k q hk; omega
  have hmu : ∀ k q, μ k = some q → upd μ nb p' k = some q := fun k q hk => upd_old hk (hne k q hk)
  have hkn := hne k p hp
  have hpl : Liv μ bl p.b := ⟨k, x, p, hk, hx, hp, hnl, rfl⟩
  have hS : ∀ b, S b → w'.heap[b]? = w.heap[b]? := fun b hb => hold b (fun e => (h.old _ hpl).2 (e ▸ hb))
  have hlk : ∀ {j y}, lk ((nb, x') :: (k, Blk.dead) :: bl) j = some y → y ≠ .dead → (j = nb ∧ y = x') ∨ (j ≠ nb ∧ j ≠ k ∧ lk bl j = some y) := by
    intro j y hj hy
    rw [lk_cons] at hj
    by_cases h1 : nb = j
    · rw [if_pos h1] at hj; cases hj; exact .inl ⟨h1.symm, rfl⟩
    · rw [if_neg h1, lk_cons] at hj
      by_cases h2 : k = j
      · rw [if_pos h2] at hj; cases hj; exact absurd rfl hy
      · rw [if_neg h2] at hj; exact .inr ⟨fun e => h1 e.symm, fun e => h2 e.symm, hj⟩
  have hliv : ∀ b, Liv (upd μ nb p') ((nb, x') :: (k, .dead) :: bl) b → Liv μ bl b := by
    rintro b ⟨j, y, q, hj, hy, hq, hn, hbq⟩
    rcases hlk hj hy with ⟨rfl, rfl⟩ | ⟨h1, h2, h3⟩
    · rw [upd_self] at hq; cases hq; rw [← hbq, hb]; exact hpl
    · rw [upd, if_neg h1] at hq; exact ⟨j, y, q, h3, hy, hq, hn, hbq⟩
  refine ⟨⟨?_, ?_, ?_, ?_, ?_, h.gl.move (fun _ h => h) hS⟩, ⟨hos, htape, hout, by omega, ?_, fun _ h => h, fun _ h => .inl h, fun b hb => .inl (hliv b hb), hmu⟩, by omega, fun k hk => by rw [upd, if_neg (by omega)]⟩
  · intro j q hj
    by_cases hjn : j = nb
    · omega
    · rw [upd, if_neg hjn] at hj; have := h.dom j q hj; omega
  · intro j y hj
    by_cases hy : y = .dead
    · subst hy; trivial
    rcases hlk hj hy with ⟨rfl, rfl⟩ | ⟨h1, h2, h3⟩
    · exact hx'
    · exact RB.move hmu (fun _ h => h) hS (fun q hq hn _ => hold _ (fun e => h2 (h.inj j k y x q p h3 hk hy hx hq hp hn hnl e))) (h.blk j y h3)
  · intro b hb'; rw [hsize]; exact h.old b (hliv b hb')
  · intro j j' y y' q q' hj hj' hy hy' hq hq' hn hn' hbb
    rcases hlk hj hy with ⟨rfl, rfl⟩ | ⟨h1, h2, h3⟩ <;> rcases hlk hj' hy' with ⟨rfl, rfl⟩ | ⟨g1, g2, g3⟩
    · rfl
    · rw [upd_self] at hq; cases hq
      rw [upd, if_neg g1] at hq'
      exact absurd (h.inj j' k y' x q' p g3 hk hy' hx hq' hp hn' hnl (by rw [← hbb, hb])) g2
    · rw [upd_self] at hq'; cases hq'
      rw [upd, if_neg h1] at hq
      exact absurd (h.inj j k y x q p h3 hk hy hx hq hp hn hnl (by rw [hbb, hb])) h2
    · rw [upd, if_neg h1] at hq; rw [upd, if_neg g1] at hq'
      exact h.inj j j' y y' q q' h3 g3 hy hy' hq hq' hn hn' hbb
  · intro b hb'; rw [hsize]; exact h.sb b hb'
  · intro b hb' hL; exact hold b (fun e => hL (e ▸ hpl))

/-- What a slice expression of a row's data holds. -/
theorem run_firstCells {size m c : Nat} {A : Option Addr} {ds : List Value} (hl : ds.length = m * size) (hA : ds = [] ∨ ∃ b o, A = some ⟨b, o, none⟩ ∧ CellsAt w b o ds) {w' : World} (hw : ∀ a, w'.cell? a = w.cell? a) :
    (Builtin.firstCells size m (.slice A m c)).run P w' = .ok ds.toArray w' := by
  rcases hA with rfl | ⟨b, o, rfl, hc⟩
  · cases A with
    | none => simp [Builtin.firstCells]
    | some a => exact run_firstCells_some (P := P) w' size m a m c [] hl (by simp)
  · exact run_firstCells_some (P := P) w' size m ⟨b, o, none⟩ m c ds hl (fun j v hv => (hw _).trans (hc.at_add j v hv))

theorem run_append_room' (t ty e : TypeId) (i : TypeInfo) (ht : P.underlying t = some (.slice e)) (hi : P.info? e = some i)
    (g o sLen sCap : Nat) (cur : List Value) (elem : TypeId) (hg : w.heap[g]? = some (.cells cur.toArray elem (0, 0)))
    (A : Option Addr) (m c : Nat) (ds : List Value) (hl : ds.length = m * i.size) (hA : ds = [] ∨ ∃ b o, A = some ⟨b, o, none⟩ ∧ CellsAt w b o ds) (h1 : ∀ u ∈ ds, u.oneCell' = true)
    (hroom : sLen + m ≤ sCap) (hfit : o + sLen * i.size + ds.length ≤ cur.length) :
    (Builtin.append_ #[t, t] ty #[.slice (some ⟨g, o, none⟩) sLen sCap, .slice A m c]).run P w =
      .ok (.slice (some ⟨g, o, none⟩) (sLen + m) sCap) (w.setRow g (cur.take (o + sLen * i.size) ++ ds ++ cur.drop (o + sLen * i.size + ds.length)).toArray) := by
  have hf := run_firstCells (P := P) (c := c) hl hA (w' := w) (fun _ => rfl)
  have hst := run_storeCells_at P g (o + sLen * i.size) elem ds 0 cur.toArray w hg (by simpa using hfit) h1
  simp only [Nat.add_zero] at hst
  simp [Builtin.append_, run_underlying ht, sizeOf, typeInfo, hi, Builtin.lenOf, hroom, hf, Addr.add_lit, hst]

theorem alloc_heap (w : World) (b : Obj) : (w.drew.alloc b).heap = w.heap.push b := rfl

theorem Nat.le_of_mul_bytes {n b m : Nat} (h : n * b ≤ m) (hb : b ≠ 0) : n ≤ m := Nat.le_trans (Nat.le_mul_of_pos_right n (Nat.pos_of_ne_zero hb)) h

theorem append_ok {R : Type} (hT : ∀ t, TiOk P T t) {L : Lib} (hL : L.ti = T) {st : St} (hB : SimB μ S w st.bl st.nb) {t et : Nat} (hk : (T t).k = .slice et) (hpu : (T et).pure = true) (ty : TypeId)
    {s x : AV} {vs vx : Value} {K : St → AV → Option R} {r : R} (h : appendAV st (T et).ty (T et).bytes s x K = some r) (hs : RV μ S w s vs) (hx : RV μ S w x vx) :
    ∃ ε nb' u v' μ' w', K ⟨st.fr, ε ++ st.bl, nb'⟩ u = some r ∧ (Builtin.append_ #[t, t] ty #[vs, vx]).run P w = .ok v' w' ∧ StepB μ S w st.bl st.nb μ' S w' (ε ++ st.bl) nb' ∧ RV μ' S w' u v' := by
  have hkind := (hT t).kind
  rw [hk] at hkind
  obtain ⟨hu, hes, _, _, _⟩ := hkind
  obtain ⟨hsz0, hsz, _, inf, z, hinf, hz, hzr⟩ := (hT et).pure hpu
  obtain ⟨inf', hinf', hi1, hi2, hby⟩ := (hT et).info hes
  rw [hinf] at hinf'; cases hinf'
  have hzl := Rep.length (hzr S w)
  have hzs : z.cells.size = (T et).size := by rw [← hsz, ← hzl]; simp
  have hes' : (T et).ty.size = inf.size := by rw [hsz, hi1]
  -- what is appended
  have src : ∀ {ys : List (T et).ty.den}, rowOf st (T et).ty x = some ys → ∃ A c ds, vx = .slice A ys.length c ∧ ds.length = ys.length * inf.size ∧ (ds = [] ∨ ∃ b o, A = some ⟨b, o, none⟩ ∧ CellsAt w b o ds) ∧ RepRow (Rep S w (T et).ty) ys ds := by
    intro ys hy
    obtain ⟨A, c, rfl, _, hd⟩ := rowOf_ok hB hy hx
    rcases hd with h0 | ⟨b, o, ds, rfl, h1, h2⟩
    · have : ys = [] := List.eq_nil_of_length_eq_zero h0
      subst this
      exact ⟨A, c, [], rfl, by simp, .inl rfl, rfl⟩
    · exact ⟨_, c, ds, rfl, by rw [RepRow.length (fun x c h => Rep.length h) h2, hes'], .inr ⟨b, o, rfl, h1⟩, h2⟩
  -- nil, and something behind it
  have fromNil : ∀ {ys : List (T et).ty.den} (ks : List (Nat × Blk)) , SimB μ S w (ks ++ st.bl) st.nb → StepB μ S w st.bl st.nb μ S w (ks ++ st.bl) st.nb → rowOf st (T et).ty x = some ys → ys.length * (T et).bytes ≤ 140737488355328 →
      K ⟨st.fr, ((st.nb, .row (T et).ty ys) :: ks) ++ st.bl, st.nb + 1⟩ (.own st.nb) = some r →
      ∃ ε nb' u v' μ' w', K ⟨st.fr, ε ++ st.bl, nb'⟩ u = some r ∧ (Builtin.append_ #[t, t] ty #[.slice none 0 0, vx]).run P w = .ok v' w' ∧ StepB μ S w st.bl st.nb μ' S w' (ε ++ st.bl) nb' ∧ RV μ' S w' u v' := by
    intro ys ks hB' hst hy hbytes hK
    obtain ⟨A, c, ds, rfl, hl, hA, hr⟩ := src hy
    rcases Nat.eq_zero_or_pos ys.length with h0 | h0
    · have : ys = [] := List.eq_nil_of_length_eq_zero h0
      subst this
      have hd0 : ds = [] := List.eq_nil_of_length_eq_zero (by simpa using hl)
      subst hd0
      have hf := run_firstCells (P := P) (c := c) (size := inf.size) (m := 0) hl hA (w' := w) (fun _ => rfl)
      refine ⟨_, _, _, _, _, w, hK, ?_, hst.trans (StepB.newNil (p := ⟨0, 0, 0, 0, true⟩) hB' rfl rfl rfl rfl rfl ⟨rfl, Nat.le_refl _⟩ rfl), RV.own_new _ _⟩
      simp only [List.length_nil] at hf ⊢
      simp [Builtin.append_, run_underlying hu, sizeOf, typeInfo, hinf, Builtin.lenOf, hf, rowVal]
    · have hd : ∃ b o, A = some ⟨b, o, none⟩ ∧ CellsAt w b o ds := by
        rcases hA with h1 | h1
        · exfalso
          have : ds.length = 0 := by rw [h1]; rfl
          rw [hl] at this
          have hp : 0 < inf.size := by rw [hi1]; exact Nat.pos_of_ne_zero hsz0
          have := Nat.mul_pos h0 hp
          omega
        · exact h1
      obtain ⟨b, o, rfl, hc⟩ := hd
      have hlen := Nat.le_of_mul_bytes hbytes hby
      have hrun := run_append_nil (P := P) w t ty et inf z hu hinf hz ⟨b, o, none⟩ ys.length c ds hl hc.at_add h0 (by omega) (by rw [hi2]; omega)
      have hcap := grownCap_ge w ys.length 0 et
      have hcm := grownCap_le_maxLen w ys.length 0 et (by simp only [maxLen]; omega)
      refine ⟨_, _, _, _, _, _, hK, hrun, hst.trans (StepB.row (cap := grownCap w ys.length 0 et) (fill := (Builtin.zeroCells z.cells (grownCap w ys.length 0 et - ys.length)).toList) (t := et) (cs := ds) hB' ?_ rfl rfl ⟨rfl, by first | exact Nat.le_succ _ | exact Nat.le_refl _⟩ hr hcap hcm ?_), ?_⟩
      · rw [alloc_heap]
        congr 2
        apply Array.ext'
        simp
      · simp only [List.length_append, hl, Array.length_toList, size_zeroCells, hzs, hes', hi1, ← Nat.add_mul]
        exact Nat.mul_le_mul_right _ (by omega)
      · exact RV.own_new _ _
  unfold appendAV at h
  cases s with
  | nil =>
    dsimp only at h
    obtain ⟨ys, hy, h⟩ := ob_some h
    split at h
    · rename_i hbytes
      have hvs : vs = .slice none 0 0 := by
        have hs : RX μ S w false .nil [vs] := hs
        rw [RX] at hs
        simpa using hs
      subst hvs
      exact fromNil [] hB (StepB.refl hB) hy hbytes h
    · cases h
  | own k =>
    have core : ∀ {xs ys : List (T et).ty.den}, rowOf st (T et).ty (.own k) = some xs → rowOf st (T et).ty x = some ys → (xs.length + ys.length) * (T et).bytes ≤ 140737488355328 →
        K ⟨st.fr, (st.nb, .row (T et).ty (xs ++ ys)) :: (k, .dead) :: st.bl, st.nb + 1⟩ (.own st.nb) = some r →
        ∃ ε nb' u v' μ' w', K ⟨st.fr, ε ++ st.bl, nb'⟩ u = some r ∧ (Builtin.append_ #[t, t] ty #[vs, vx]).run P w = .ok v' w' ∧ StepB μ S w st.bl st.nb μ' S w' (ε ++ st.bl) nb' ∧ RV μ' S w' u v' := by
      intro xs ys hx1 hy hbytes hK
      have hk : lk st.bl k = some (.row (T et).ty xs) := by
        unfold rowOf at hx1
        dsimp only at hx1
        split at hx1
        · rename_i e' zs hk
          split at hx1
          · rename_i hs' _
            cases hs' with
            | mk hs' =>
            have : e' = (T et).ty := by injection hs'
            subst this
            cases hx1
            exact hk
          · cases hx1
        · cases hx1
      obtain ⟨p, hp, rfl⟩ := hs.own_inv
      obtain ⟨hn, hr⟩ := hB.row hk hp
      have hdrop := StepB.drop hB k
      rcases hr with ⟨hnl, rfl, hcap⟩ | ⟨hnl, cur, elem, h1, h2, h3, h4, h5⟩
      · have hv : rowVal p = .slice none 0 0 := by rw [rowVal, hnl, hn, hcap]; rfl
        rw [hv]
        exact fromNil [(k, .dead)] hdrop.1 hdrop hy (by simpa using hbytes) (by simpa using hK)
      · obtain ⟨A, c, ds, rfl, hl, hA, hr⟩ := src hy
        have hv : rowVal p = .slice (some ⟨p.b, p.o, none⟩) xs.length p.cap := by rw [rowVal, hnl, hn]; rfl
        rw [hv]
        have hlen := Nat.le_of_mul_bytes hbytes hby
        have hl1 := RepRow.length (n := (T et).ty.size) (fun x c h => Rep.length h) h5
        have hone : ∀ u ∈ ds, u.oneCell' = true := RepRow.all (fun x c h => Rep.one h) hr
        rw [hes'] at h4 h5 hl1
        by_cases hroom : xs.length + ys.length ≤ p.cap
        · have hfit : p.o + xs.length * inf.size + ds.length ≤ cur.length := by
            rw [hl, Nat.add_assoc, ← Nat.add_mul]
            exact Nat.le_trans (Nat.add_le_add_left (Nat.mul_le_mul_right _ hroom) _) h4
          have hrun := run_append_room' (P := P) t ty et inf hu hinf p.b p.o xs.length p.cap cur elem h1 A ys.length c ds hl hA hone hroom hfit
          obtain ⟨f1, f2, f3⟩ := setRow_facts h1 (cur.take (p.o + xs.length * inf.size) ++ ds ++ cur.drop (p.o + xs.length * inf.size + ds.length))
          have hS : ∀ b, S b → (w.setRow p.b (cur.take (p.o + xs.length * inf.size) ++ ds ++ cur.drop (p.o + xs.length * inf.size + ds.length)).toArray).heap[b]? = w.heap[b]? :=
            fun b hb => f2 b (fun e => (hB.old _ ⟨k, _, p, hk, by simp, hp, hnl, rfl⟩).2 (e ▸ hb))
          refine ⟨[(st.nb, .row (T et).ty (xs ++ ys)), (k, .dead)], _, _, _, _, _, hK, hrun, StepB.turn (p' := ⟨p.b, xs.length + ys.length, p.o, p.cap, false⟩) hB hk (by simp) hp hnl rfl rfl rfl rfl ⟨rfl, Nat.le_refl _⟩ f3 f2 ?_, ?_⟩
          · refine ⟨_, upd_self _ _ _, by simp, .inr ⟨rfl, _, elem, f1, by simpa using hroom, h3, ?_, ?_⟩⟩
            · simp only [hes', List.length_append, List.length_take, List.length_drop]
              omega
            · have hrr := RepRow.append h5 hr
              rw [hes', List.length_append]
              have e1 : ((cur.take (p.o + xs.length * inf.size) ++ ds ++ cur.drop (p.o + xs.length * inf.size + ds.length)).drop p.o).take ((xs.length + ys.length) * inf.size) = (cur.drop p.o).take (xs.length * inf.size) ++ ds := by
                have a1 : (cur.take (p.o + xs.length * inf.size) ++ ds ++ cur.drop (p.o + xs.length * inf.size + ds.length)).drop p.o = (cur.drop p.o).take (xs.length * inf.size) ++ (ds ++ cur.drop (p.o + xs.length * inf.size + ds.length)) := by
                  rw [List.append_assoc, List.drop_append_of_le_length (by simp; omega), List.drop_take]
                  congr 2; omega
                have l1 : ((cur.drop p.o).take (xs.length * inf.size) ++ ds).length = (xs.length + ys.length) * inf.size := by
                  rw [List.length_append, hl1, hl, Nat.add_mul]
                rw [a1, ← List.append_assoc, List.take_append_of_le_length (by omega), List.take_of_length_le (by omega)]
              rw [e1]
              exact hrr.imp fun x c h => Rep.move (fun _ h => h) hS h
          · exact RV.own_new _ _
        · have hm : 0 < ys.length := by omega
          have hd : ∃ b o, A = some ⟨b, o, none⟩ ∧ CellsAt w b o ds := by
            rcases hA with h1 | h1
            · exfalso
              have : ds.length = 0 := by rw [h1]; rfl
              rw [hl] at this
              have hp : 0 < inf.size := by rw [hi1]; exact Nat.pos_of_ne_zero hsz0
              have := Nat.mul_pos hm hp
              omega
            · exact h1
          obtain ⟨b, o, rfl, hc⟩ := hd
          have hold := CellsAt.of_heap h1 p.o (xs.length * inf.size)
          have hrun := run_append_grow (P := P) w t ty et inf z hu hinf hz ⟨p.b, p.o, none⟩ xs.length p.cap _ hl1 hold.at_add ⟨b, o, none⟩ ys.length c ds hl hc.at_add (by omega) (by omega)
            (growslice_fits (by omega) (by rw [hi2]; exact hbytes))
          have hcap := grownCap_ge w (xs.length + ys.length) p.cap et
          have hcm := grownCap_le_maxLen w (xs.length + ys.length) p.cap et (by simp only [maxLen]; omega)
          have hrr := RepRow.append h5 hr
          have hst := StepB.row (μ := μ) (S := S) (w := w) (cap := grownCap w (xs.length + ys.length) p.cap et) (fill := (Builtin.zeroCells z.cells (grownCap w (xs.length + ys.length) p.cap et - (xs.length + ys.length))).toList) (t := et)
            (w' := w.drew.alloc (.cells (((cur.drop p.o).take (xs.length * inf.size)).toArray ++ ds.toArray ++ Builtin.zeroCells z.cells (grownCap w (xs.length + ys.length) p.cap et - (xs.length + ys.length))) et)) hdrop.1
            (by rw [alloc_heap]; congr 2; apply Array.ext'; simp) rfl rfl ⟨rfl, by first | exact Nat.le_succ _ | exact Nat.le_refl _⟩ hrr (by simpa using hcap) hcm (by
              have hfill : (Builtin.zeroCells z.cells (grownCap w (xs.length + ys.length) p.cap et - (xs.length + ys.length))).toList.length = (grownCap w (xs.length + ys.length) p.cap et - (xs.length + ys.length)) * inf.size := by
                rw [Array.length_toList, size_zeroCells, hzs, hi1]
              rw [List.length_append, List.length_append, hl, hl1, hfill, hes', ← Nat.add_mul, ← Nat.add_mul]
              exact Nat.mul_le_mul_right _ (by omega))
          refine ⟨[(st.nb, .row (T et).ty (xs ++ ys)), (k, .dead)], _, _, _, _, _, hK, hrun, hdrop.trans hst, ?_⟩
          have := RV.own_new (S := S) (w := w.drew.alloc (.cells (((cur.drop p.o).take (xs.length * inf.size)).toArray ++ ds.toArray ++ Builtin.zeroCells z.cells (grownCap w (xs.length + ys.length) p.cap et - (xs.length + ys.length))) et)) (μ := μ) st.nb ⟨w.heap.size, (xs ++ ys).length, 0, grownCap w (xs.length + ys.length) p.cap et, false⟩
          simpa [rowVal] using this
    cases x with
    | own j =>
      dsimp only at h
      obtain ⟨_, h⟩ := condF h
      obtain ⟨xs, hxs, h⟩ := ob_some h
      obtain ⟨ys, hys, h⟩ := ob_some h
      split at h
      · rename_i hbytes; exact core hxs hys hbytes h
      · cases h
    | _ =>
      dsimp only at h
      obtain ⟨xs, hxs, h⟩ := ob_some h
      obtain ⟨ys, hys, h⟩ := ob_some h
      split at h
      · rename_i hbytes; exact core hxs hys hbytes h
      · cases h
  | _ => cases h

end
end Go.Pv

/- Operations of the reading against the model's: make, slice expressions, len, min and max, strings. -/
set_option linter.unusedVariables false
set_option linter.unusedSimpArgs false
namespace Go.Pv

section
variable {P : Program} {T : Nat → TI} {μ : Nat → Option At} {S : Nat → Prop} {w : World} {bl : List (Nat × Blk)} {nb : Nat}

theorem madeCells_mul (z : Array Value) (m : Nat) : (madeCells z (m * z.size)).toList = (List.replicate m z.toList).flatten := by
  induction m with
  | zero => simp [madeCells]
  | succ m ih =>
    have h1 : (List.replicate (m + 1) z.toList).flatten = (List.replicate m z.toList).flatten ++ z.toList := by
      rw [List.replicate_succ', List.flatten_append]; simp
    have h2 : ∀ n, (madeCells z n).toList = (List.range n).map (fun i => z[i % z.size]!) := fun n => by simp [madeCells]
    rw [h1, ← ih, h2, h2, Nat.add_mul, Nat.one_mul, List.range_add, List.map_append]
    congr 1
    apply List.ext_getElem
    · simp
    · intro i h3 h4
      have h5 : i < z.size := by simpa using h4
      simp [Nat.mod_eq_of_lt h5, getElem!_pos, h5]

theorem make_ok (hT : ∀ t, TiOk P T t) (hB : SimB μ S w bl nb) {t et : Nat} (hk : (T t).k = .slice et) (hpu : (T et).pure = true) {n : Int} (kl kc : IntKind) (h0 : 0 ≤ n) (hb : n * ((T et).bytes : Int) ≤ 140737488355328) :
    ∃ v p w', (Instr.makeSlice t (.int kl n) (.int kc n)).run P w = .ok v w' ∧ StepB μ S w bl nb (upd μ nb p) S w' ((nb, .row (T et).ty (List.replicate n.toNat (T et).ty.dflt)) :: bl) (nb + 1) ∧ RV (upd μ nb p) S w' (.own nb) v := by
  have hkind := (hT t).kind
  rw [hk] at hkind
  obtain ⟨hu, hes, _, _, _⟩ := hkind
  obtain ⟨hsz0, hsz, _, inf, z, hinf, hz, hzr⟩ := (hT et).pure hpu
  obtain ⟨inf', hinf', hi1, hi2, hby⟩ := (hT et).info hes
  rw [hinf] at hinf'; cases hinf'
  have hzl := Rep.length (hzr S w)
  have hzs : z.cells.size = (T et).size := by rw [← hsz, ← hzl]; simp
  have hn : n ≤ 140737488355328 := by
    have hb1 : (1 : Int) ≤ (T et).bytes := by have := Nat.pos_of_ne_zero hby; omega
    have := Int.mul_le_mul_of_nonneg_left hb1 h0
    omega
  have hrun := run_make (P := P) w t et inf z hu hinf hz kl kc n n h0 (Int.le_refl _) (by rw [hi2, Int.mul_comm]; omega) (by omega)
  have hfit : n.toNat * (T et).ty.size ≤ ((List.replicate n.toNat z.cells.toList).flatten ++ []).length := by
    simp only [List.append_nil, List.length_flatten, List.map_replicate, List.sum_replicate_nat, hzl]
    exact Nat.le_refl _
  refine ⟨_, _, _, hrun, StepB.row (cap := n.toNat) (fill := []) (t := et) (cs := (List.replicate n.toNat z.cells.toList).flatten) hB ?_ rfl rfl ⟨rfl, Nat.le_refl _⟩ (RepRow.replicate (hzr S w) _) (by simp) (by simp only [maxLen]; omega) hfit, ?_⟩
  · show w.heap.push _ = _
    congr 2
    apply Array.ext'
    rw [hi1, ← hzs, madeCells_mul, List.append_nil]
  · have := RV.own_new (S := S) (w := w.alloc (.cells (madeCells z.cells (n.toNat * inf.size)) et)) (μ := μ) nb ⟨w.heap.size, (List.replicate n.toNat (T et).ty.dflt).length, 0, n.toNat, false⟩
    simpa [rowVal] using this

theorem bound_ok {R : Type} {st : St} {a : Act} (hf : SimF μ S w st.fr a) {o : Option Operand} {d : Int} {K : Int → Option R} {r : R} (h : boundOf st o d K = some r) :
    ∃ i, K i = some r ∧ ((o = none ∧ o.map a.eval = none ∧ i = d) ∨ ∃ x k, o = some x ∧ o.map a.eval = some (.int k i)) := by
  unfold boundOf at h
  cases o with
  | none => exact ⟨d, h, .inl ⟨rfl, rfl, rfl⟩⟩
  | some x =>
    dsimp only at h
    obtain ⟨v, hv, h⟩ := ob_some h
    obtain ⟨h1, -, -⟩ := St.opd_ok hf hv
    split at h
    · rename_i k i
      exact ⟨i, h, .inr ⟨x, k, rfl, by simp [h1.int_inv]⟩⟩
    · cases h

theorem run_bounds (isSlice : Bool) (len cap : Nat) {lo hi : Option Value} {l h : Int} (hlo : (lo = none ∧ l = 0) ∨ ∃ k, lo = some (.int k l)) (hhi : (hi = none ∧ h = len) ∨ ∃ k, hi = some (.int k h))
    (h0 : 0 ≤ l) (h1 : l ≤ h) (h2 : h ≤ cap) : (Instr.sliceBounds isSlice len cap lo hi none).run P w = .ok (l.toNat, h.toNat, cap) w := by
  have e1 : (h.toNat : Int) = h := by omega
  rcases hlo with ⟨rfl, rfl⟩ | ⟨k, rfl⟩ <;> rcases hhi with ⟨rfl, rfl⟩ | ⟨k', rfl⟩
  · simp [Instr.sliceBounds]
  · have : 0 ≤ h := by omega
    simp [Instr.sliceBounds, Instr.sliceBound, asIntOf, this, h2]
  · simp [Instr.sliceBounds, Instr.sliceBound, asIntOf, h0, h1]
  · have : 0 ≤ h := by omega
    simp [Instr.sliceBounds, Instr.sliceBound, asIntOf, h0, h1, h2, e1, this]

theorem elemIs_ok {L : Lib} {t : Nat} {e : Ty} (h : elemIs L t e = true) : ∃ et, (L.ti t).k = .slice et ∧ e.size = (L.ti et).size := by
  unfold elemIs at h
  split at h
  · rename_i et hk; exact ⟨et, hk, beq_true h⟩
  · cases h

theorem plainTy_ok {L : Lib} {t : Nat} {e : Ty} (h : plainTy L t = some e) : (L.ti t).k = .plain ∧ (L.ti t).ty = e := by
  unfold plainTy at h
  split at h
  · rename_i hk; exact ⟨hk, by simpa using h⟩
  · cases h

theorem run_slice_at {t et : TypeId} (hu : P.underlying t = some (.slice et)) {s : Nat} (hs : (sizeOf et).run P w = .ok s w) (A : Option Addr) (len cap : Nat) {lo hi : Option Value} {l h : Int}
    (hlo : (lo = none ∧ l = 0) ∨ ∃ k, lo = some (.int k l)) (hhi : (hi = none ∧ h = len) ∨ ∃ k, hi = some (.int k h))
    (h0 : 0 ≤ l) (h1 : l ≤ h) (h2 : h ≤ cap) :
    (Instr.sliceAt t (.slice A len cap) lo hi none).run P w = .ok (.slice (if cap = l.toNat then A else A.map (·.add (l.toNat * s))) (h.toNat - l.toNat) (cap - l.toNat)) w := by
  have hb := run_bounds (P := P) (w := w) true len cap hlo hhi h0 h1 h2
  simp [Instr.sliceAt, run_underlying hu, Instr.slice, hb, hs]

theorem RepRow.cut {e : Ty} {xs : List e.den} {cs : List Value} {l h : Nat} (hr : RepRow (Rep S w e) xs cs) : RepRow (Rep S w e) ((xs.take h).drop l) ((cs.take (h * e.size)).drop (l * e.size)) :=
  RepRow.drop (fun x c h => Rep.length h) l (RepRow.take (fun x c h => Rep.length h) h hr)

theorem cut_data {lo hi : Option Operand} {α : Type} {xs : List α} {h l : Int} (h3 : hi = none → h = xs.length) (h4 : lo = none → l = 0) : cut lo hi l h xs = (xs.take h.toNat).drop l.toNat := by
  unfold cut
  cases hi with
  | some _ => cases lo with
    | some _ => rfl
    | none => rw [h4 rfl]; rfl
  | none => cases lo with
    | some _ => dsimp only; rw [h3 rfl, Int.toNat_natCast, List.take_length]
    | none => dsimp only; rw [h3 rfl, h4 rfl, Int.toNat_natCast, List.take_length]; rfl

theorem slice_ok {R : Type} (hT : ∀ t, TiOk P T t) {L : Lib} (hL : L.ti = T) {st : St} (hB : SimB μ S w st.bl st.nb) {a : Act} (hf : SimF μ S w st.fr a) {t : Nat} {x : AV} {lo hi : Option Operand} {v : Value} {K : St → AV → Option R} {r : R}
    (h : sliceAV L st t x lo hi K = some r) (hv : RV μ S w x v) :
    ∃ ε nb' u v' μ', K ⟨st.fr, ε ++ st.bl, nb'⟩ u = some r ∧ (Instr.sliceAt t v (lo.map a.eval) (hi.map a.eval) none).run P w = .ok v' w ∧ StepB μ S w st.bl st.nb μ' S w (ε ++ st.bl) nb' ∧ RV μ' S w u v' := by
  subst hL
  -- the bounds
  have bnd : ∀ {n : Nat} {lo hi : Option Operand} {K' : Int → Int → Option R}, (boundOf st hi n fun h => boundOf st lo 0 fun l => K' h l) = some r →
      ∃ h l, K' h l = some r ∧ ((lo.map a.eval = none ∧ l = 0) ∨ ∃ k, lo.map a.eval = some (.int k l)) ∧ ((hi.map a.eval = none ∧ h = n) ∨ ∃ k, hi.map a.eval = some (.int k h)) ∧ (hi = none → h = n) ∧ (lo = none → l = 0) := by
    intro n lo hi K' hh
    obtain ⟨h, hh, e1⟩ := bound_ok hf hh
    obtain ⟨l, hh, e2⟩ := bound_ok hf hh
    refine ⟨h, l, hh, ?_, ?_, ?_, ?_⟩
    · rcases e2 with ⟨_, h1, h2⟩ | ⟨_, k, _, h1⟩
      · exact .inl ⟨h1, h2⟩
      · exact .inr ⟨k, h1⟩
    · rcases e1 with ⟨_, h1, h2⟩ | ⟨_, k, _, h1⟩
      · exact .inl ⟨h1, h2⟩
      · exact .inr ⟨k, h1⟩
    · intro e; rcases e1 with ⟨_, _, h2⟩ | ⟨_, _, h1, _⟩
      · exact h2
      · rw [e] at h1; cases h1
    · intro e; rcases e2 with ⟨_, _, h2⟩ | ⟨_, _, h1, _⟩
      · exact h2
      · rw [e] at h1; cases h1
  unfold sliceAV at h
  cases x with
  | own k =>
    dsimp only at h
    split at h
    · rename_i e xs hkx
      obtain ⟨he, h⟩ := condT h
      obtain ⟨et, hk, hsz⟩ := elemIs_ok he
      have hkind := (hT t).kind
      rw [hk] at hkind
      obtain ⟨hu, hes, _, _, _⟩ := hkind
      have hs := run_sizeOf (hT et) hes w
      obtain ⟨hh, l, h, b1, b2, b3, b4⟩ := bnd h
      split at h
      · rename_i hc
        obtain ⟨c0, c1, c2⟩ := hc
        rw [cut_data b3 b4] at h
        obtain ⟨p, hp, rfl⟩ := hv.own_inv
        obtain ⟨hn, hr⟩ := hB.row hkx hp
        rcases hr with ⟨hnl, rfl, hcap⟩ | ⟨hnl, cs, ty, h1, h2, h3, h4, h5⟩
        · have hl0 : l = 0 := by simp at c2; omega
          have hh0 : hh = 0 := by simp at c2; omega
          subst hl0; subst hh0
          have hd := StepB.drop hB k
          have hn' : p.n = 0 := by simpa using hn
          refine ⟨[(st.nb, .row e []), (k, .dead)], _, _, _, upd μ st.nb ⟨0, 0, 0, 0, true⟩, h, ?_, hd.trans (StepB.newNil hd.1 rfl rfl rfl rfl rfl ⟨rfl, Nat.le_refl _⟩ rfl), RV.own_new _ _⟩
          have := run_slice_at hu hs none 0 0 (lo := lo.map a.eval) (hi := hi.map a.eval) (l := 0) (h := 0) b1 (by simpa using b2) (Int.le_refl _) (Int.le_refl _) (Int.le_refl _)
          rw [rowVal, hnl, hn', hcap]
          simpa [rowVal] using this
        · have hrun := run_slice_at hu hs (some ⟨p.b, p.o, none⟩) xs.length p.cap (lo := lo.map a.eval) (hi := hi.map a.eval) b1 b2 c0 c1 (by omega)
          have hval : rowVal p = .slice (some ⟨p.b, p.o, none⟩) xs.length p.cap := by rw [rowVal, hnl, hn]; rfl
          rw [hval]
          refine ⟨[(st.nb, .row e ((xs.take hh.toNat).drop l.toNat)), (k, .dead)], _, _, _, upd μ st.nb ⟨p.b, hh.toNat - l.toNat, if p.cap = l.toNat then p.o else p.o + l.toNat * e.size, p.cap - l.toNat, false⟩, h, hrun,
            StepB.turn hB hkx (by simp) hp hnl rfl rfl rfl rfl ⟨rfl, Nat.le_refl _⟩ rfl (fun _ _ => rfl) ?_, ?_⟩
          · refine ⟨_, upd_self _ _ _, by simp; omega, .inr ⟨rfl, cs, ty, h1, ?_, ?_, ?_, ?_⟩⟩
            · simp; omega
            · show p.cap - l.toNat ≤ maxLen; omega
            · show (if p.cap = l.toNat then p.o else p.o + l.toNat * e.size) + (p.cap - l.toNat) * e.size ≤ cs.length
              split
              · rename_i hcl; rw [hcl, Nat.sub_self, Nat.zero_mul]; exact Nat.le_trans (Nat.le_add_right _ _) h4
              · rw [Nat.add_assoc, ← Nat.add_mul, Nat.add_sub_cancel' (by omega)]; exact h4
            · have hcut := RepRow.cut (l := l.toNat) (h := hh.toNat) h5
              have hlen : ((xs.take hh.toNat).drop l.toNat).length = hh.toNat - l.toNat := by simp; omega
              rw [hlen]
              show RepRow _ _ ((cs.drop (if p.cap = l.toNat then p.o else p.o + l.toNat * e.size)).take ((hh.toNat - l.toNat) * e.size))
              by_cases hcl : p.cap = l.toNat
              · have : hh.toNat - l.toNat = 0 := by omega
                rw [if_pos hcl, this, Nat.zero_mul, List.take_zero]
                have : (xs.take hh.toNat).drop l.toNat = [] := List.eq_nil_of_length_eq_zero (by omega)
                rw [this]; rfl
              · rw [if_neg hcl]
                have e1 : (((cs.drop p.o).take (xs.length * e.size)).take (hh.toNat * e.size)).drop (l.toNat * e.size) = (cs.drop (p.o + l.toNat * e.size)).take ((hh.toNat - l.toNat) * e.size) := by
                  rw [List.take_take, Nat.min_eq_left (Nat.mul_le_mul_right _ (by omega)), List.drop_take, List.drop_drop, Nat.sub_mul]
                rw [← e1]; exact hcut
          · have := RV.own_new (S := S) (w := w) (μ := μ) st.nb ⟨p.b, hh.toNat - l.toNat, if p.cap = l.toNat then p.o else p.o + l.toNat * e.size, p.cap - l.toNat, false⟩
            have e2 : (if p.cap = l.toNat then (some ⟨p.b, p.o, none⟩ : Option Addr) else (some (⟨p.b, p.o, none⟩ : Addr)).map (·.add (l.toNat * (L.ti et).size))) = some ⟨p.b, if p.cap = l.toNat then p.o else p.o + l.toNat * e.size, none⟩ := by
              split
              · rfl
              · rw [Option.map_some, Addr.add_lit, hsz]
            rw [e2]
            exact this
      · cases h
    · cases h
  | dat u xs =>
    cases u with
    | sl e =>
      dsimp only at h
      obtain ⟨he, h⟩ := condT h
      obtain ⟨et, hk, hsz⟩ := elemIs_ok he
      have hkind := (hT t).kind
      rw [hk] at hkind
      obtain ⟨hu, hes, _, _, _⟩ := hkind
      have hs := run_sizeOf (hT et) hes w
      obtain ⟨hh, l, h, b1, b2, b3, b4⟩ := bnd h
      split at h
      · rename_i hc
        obtain ⟨c0, c1, c2⟩ := hc
        rw [cut_data b3 b4] at h
        obtain ⟨A, cap, rfl, hcap, hx⟩ := hv.sl_inv
        have hrun := run_slice_at hu hs A xs.length cap (lo := lo.map a.eval) (hi := hi.map a.eval) b1 b2 c0 c1 (by omega)
        refine ⟨[], _, _, _, μ, h, hrun, StepB.refl hB, RV.of_one (u := .dat (.sl e) _) ?_ rfl⟩
        have hlen : ((xs.take hh.toNat).drop l.toNat).length = hh.toNat - l.toNat := by simp; omega
        refine ⟨_, _, by rw [hlen], by rw [hlen]; omega, ?_⟩
        intro hpos
        rw [hlen] at hpos
        obtain ⟨b, o, ds, rfl, hb, hcell, hr⟩ := hx (by omega)
        have hne : ¬ cap = l.toNat := by omega
        rw [if_neg hne]
        refine ⟨b, o + l.toNat * e.size, _, by rw [Option.map_some, Addr.add_lit, hsz], hb, ?_, RepRow.cut hr⟩
        have := hcell.sub (l.toNat * e.size) (hh.toNat * e.size - l.toNat * e.size)
        rw [← List.drop_take] at this
        exact this
      · cases h
    | str =>
      dsimp only at h
      split at h
      · rename_i hpl
        obtain ⟨hk, hty⟩ := plainTy_ok hpl
        have hkind := (hT t).kind
        rw [hk] at hkind
        obtain ⟨_, hkind⟩ := hkind
        rw [hty] at hkind
        obtain ⟨hh, l, h, b1, b2, b3, b4⟩ := bnd h
        split at h
        · rename_i hc
          obtain ⟨c0, c1, c2⟩ := hc
          have hv := hv.str_inv
          subst hv
          refine ⟨[], _, _, _, μ, h, ?_, StepB.refl hB, RV.str _⟩
          have hb := run_bounds (P := P) (w := w) false xs.size xs.size (lo := lo.map a.eval) (hi := hi.map a.eval) b1 b2 c0 c1 c2
          have hkind : P.underlying t = some .string := hkind
          simp [Instr.sliceAt, run_underlying hkind, Instr.slice, hb]
        · cases h
      · cases h
    | _ => cases h
  | _ => cases h

theorem REnts.length {kt vt : Ty} : ∀ {es : List (kt.den × vt.den)} {l : List MapEntry}, REnts S w kt vt es l → l.length = es.length
  | [], _, h => by rw [REnts] at h; rw [h]; rfl
  | _ :: _, _, ⟨e, es', e1, _, _, h⟩ => by rw [e1, List.length_cons, List.length_cons, REnts.length h]

theorem len_ok (hT : ∀ t, TiOk P T t) {L : Lib} (hL : L.ti = T) {st : St} (hB : SimB μ S w st.bl st.nb) {t : Nat} {x : AV} {n : Int} {v : Value} (ty : TypeId) (h : lenAV L st t x = some n) (hv : RV μ S w x v) :
    (Builtin.len_ #[t] ty #[v]).run P w = .ok (.int .i64 n) w := by
  subst hL
  have hkind := (hT t).kind
  unfold lenAV at h
  split at h
  · rename_i et hk
    rw [hk] at hkind
    obtain ⟨hu, _⟩ := hkind
    have key : ∀ A m cap, (Builtin.len_ #[t] ty #[.slice A m cap]).run P w = .ok (.int .i64 (m : Int)) w := by
      intro A m cap
      simp [Builtin.len_, run_underlying hu, goInt]
    cases x with
    | own k =>
      dsimp only at h
      obtain ⟨p, hp, rfl⟩ := hv.own_inv
      split at h
      · rename_i e xs hkx
        obtain ⟨hn, _⟩ := hB.row hkx hp
        cases h
        rw [rowVal, key, hn]
      · rename_i m sz vs hkx
        obtain ⟨q, hq, _, hn, _⟩ := hB.blk k _ hkx
        rw [hp] at hq; cases hq
        cases h
        rw [rowVal, key, hn]
      · cases h
    | nil =>
      cases h
      have hv : RX μ S w false .nil [v] := hv
      rw [RX] at hv
      simp only [List.cons.injEq, and_true] at hv
      subst hv
      exact key _ _ _
    | dat u xs =>
      cases u with
      | sl e =>
        cases h
        obtain ⟨A, cap, rfl, _⟩ := hv.sl_inv
        exact key _ _ _
      | _ => cases h
    | _ => cases h
  · rename_i hk
    rw [hk] at hkind
    obtain ⟨_, hkind⟩ := hkind
    split at h
    · rename_i hty
      rw [hty] at hkind
      cases h
      have hv := hv.str_inv
      subst hv
      have hkind : P.underlying t = some .string := hkind
      simp [Builtin.len_, run_underlying hkind, goInt]
    · cases h
  · rename_i kt vt hk
    rw [hk] at hkind
    obtain ⟨hu, _⟩ := hkind
    cases x with
    | mp k =>
      dsimp only at h
      split at h
      · rename_i kt' vt' es hkx
        cases h
        obtain ⟨p, hp, e⟩ := hv
        simp only [List.cons.injEq, and_true] at e
        subst e
        obtain ⟨q, hq, _, ents, clock, h1, h2⟩ := hB.blk k _ hkx
        rw [hp] at hq; cases hq
        have hl : ents.size = es.length := by simpa using REnts.length h2.1
        simp [Builtin.len_, run_underlying hu, MapKept.run_getObj_map h1, goInt, hl]
      · cases h
    | _ => cases h
  · cases h

theorem run_min (ts : Array TypeId) (ty : TypeId) (m n : Int) : (Builtin.min_ ts ty #[.int .i64 m, .int .i64 n]).run P w = .ok (.int .i64 (min m n)) w := by
  have : (if n < m then n else m) = min m n := by omega
  simp [Builtin.min_, Builtin.min2, this]
theorem run_max (ts : Array TypeId) (ty : TypeId) (m n : Int) : (Builtin.max_ ts ty #[.int .i64 m, .int .i64 n]).run P w = .ok (.int .i64 (max m n)) w := by
  have : (if n > m then n else m) = max m n := by omega
  simp [Builtin.max_, Builtin.max2, this]


theorem slice3_ok {R : Type} (hT : ∀ t, TiOk P T t) {L : Lib} (hL : L.ti = T) {st : St} (hB : SimB μ S w st.bl st.nb) {a : Act} (hf : SimF μ S w st.fr a) {t : Nat} {x : AV} {hi mx : Operand} {v : Value} {K : St → AV → Option R} {r : R}
    (h : slice3AV L st t x hi mx K = some r) (hv : RV μ S w x v) :
    ∃ ε nb' u v' μ', K ⟨st.fr, ε ++ st.bl, nb'⟩ u = some r ∧ (Instr.sliceAt t v none (some (a.eval hi)) (some (a.eval mx))).run P w = .ok v' w ∧ StepB μ S w st.bl st.nb μ' S w (ε ++ st.bl) nb' ∧ RV μ' S w u v' := by
  subst hL
  unfold slice3AV at h
  obtain ⟨i, h, e1⟩ := bound_ok hf h
  obtain ⟨m, h, e2⟩ := bound_ok hf h
  obtain ⟨k1, e1⟩ : ∃ k, a.eval hi = .int k i := by
    rcases e1 with ⟨e, _⟩ | ⟨_, k, _, e⟩
    · cases e
    · exact ⟨k, by simpa using e⟩
  obtain ⟨k2, e2⟩ : ∃ k, a.eval mx = .int k m := by
    rcases e2 with ⟨e, _⟩ | ⟨_, k, _, e⟩
    · cases e
    · exact ⟨k, by simpa using e⟩
  rw [e1, e2]
  have run : ∀ {et : TypeId} (hu : P.underlying t = some (.slice et)) {s : Nat} (hs : (sizeOf et).run P w = .ok s w) (A : Option Addr) (len cap : Nat), 0 ≤ i → i ≤ m → m ≤ (cap : Int) →
      (Instr.sliceAt t (.slice A len cap) none (some (.int k1 i)) (some (.int k2 m))).run P w = .ok (.slice (if m.toNat = 0 then A else A.map (·.add (0 * s))) i.toNat m.toNat) w := by
    intro et hu s hs A len cap h0 h1 h2
    have g1 : 0 ≤ m := by omega
    have g2 : ¬ max m 0 < i := by omega
    simp [Instr.sliceAt, run_underlying hu, Instr.slice, Instr.sliceBounds, Instr.sliceBound, asIntOf, hs, h0, h2, g1]
    intro hh
    exact absurd hh g2
  cases x with
  | own k =>
    dsimp only at h
    split at h
    · rename_i e xs hkx
      obtain ⟨he, h9⟩ := condT h
      clear h
      obtain ⟨et, hk, hsz⟩ := elemIs_ok he
      have hkind := (hT t).kind
      rw [hk] at hkind
      obtain ⟨hu, hes, _, _, _⟩ := hkind
      have hs := run_sizeOf (hT et) hes w
      split at h9
      · rename_i hc
        obtain ⟨c0, c1, c2⟩ := hc
        obtain ⟨p, hp, rfl⟩ := hv.own_inv
        obtain ⟨hn, hr⟩ := hB.row hkx hp
        rcases hr with ⟨hnl, rfl, hcap⟩ | ⟨hnl, cs, ty, h1, h2, h3, h4, h5⟩
        · have hi0 : i = 0 := by simp at c2; omega
          have hm0 : m = 0 := by simp at c2; omega
          subst hi0; subst hm0
          have hd := StepB.drop hB k
          refine ⟨[(st.nb, .row e []), (k, .dead)], _, _, _, upd μ st.nb ⟨0, 0, 0, 0, true⟩, h9, ?_, hd.trans (StepB.newNil hd.1 rfl rfl rfl rfl rfl ⟨rfl, Nat.le_refl _⟩ rfl), RV.own_new _ _⟩
          have := run hu hs none p.n p.cap (Int.le_refl _) (Int.le_refl _) (by omega)
          rw [rowVal, hnl]
          simpa [rowVal] using this
        · have hrun := run hu hs (some ⟨p.b, p.o, none⟩) xs.length p.cap c0 c1 (by omega)
          have hval : rowVal p = .slice (some ⟨p.b, p.o, none⟩) xs.length p.cap := by rw [rowVal, hnl, hn]; rfl
          rw [hval]
          refine ⟨[(st.nb, .row e (xs.take i.toNat)), (k, .dead)], _, _, _, upd μ st.nb ⟨p.b, i.toNat, p.o, m.toNat, false⟩, h9, hrun,
            StepB.turn hB hkx (by simp) hp hnl rfl rfl rfl rfl ⟨rfl, Nat.le_refl _⟩ rfl (fun _ _ => rfl) ?_, ?_⟩
          · have hlen : (xs.take i.toNat).length = i.toNat := by simp; omega
            refine ⟨_, upd_self _ _ _, hlen.symm, .inr ⟨rfl, cs, ty, h1, ?_, ?_, ?_, ?_⟩⟩
            · rw [hlen]; show i.toNat ≤ m.toNat; omega
            · show m.toNat ≤ maxLen; omega
            · have : m.toNat * e.size ≤ p.cap * e.size := Nat.mul_le_mul_right _ (by omega)
              show p.o + m.toNat * e.size ≤ cs.length
              omega
            · have := RepRow.take (R := Rep S w e) (fun x c h => Rep.length h) i.toNat h5
              rw [List.take_take, Nat.min_eq_left (Nat.mul_le_mul_right _ (by omega))] at this
              rw [hlen]
              exact this
          · have := RV.own_new (S := S) (w := w) (μ := μ) st.nb ⟨p.b, i.toNat, p.o, m.toNat, false⟩
            have e3 : (if m.toNat = 0 then (some ⟨p.b, p.o, none⟩ : Option Addr) else (some (⟨p.b, p.o, none⟩ : Addr)).map (·.add (0 * (L.ti et).size))) = some ⟨p.b, p.o, none⟩ := by
              split
              · rfl
              · rw [Option.map_some, Addr.add_lit, Nat.zero_mul, Nat.add_zero]
            rw [e3]
            exact this
      · cases h9
    · cases h
  | dat u xs =>
    cases u with
    | sl e =>
      dsimp only at h
      obtain ⟨he, h9⟩ := condT h
      clear h
      obtain ⟨et, hk, hsz⟩ := elemIs_ok he
      have hkind := (hT t).kind
      rw [hk] at hkind
      obtain ⟨hu, hes, _, _, _⟩ := hkind
      have hs := run_sizeOf (hT et) hes w
      split at h9
      · rename_i hc
        obtain ⟨c0, c1, c2⟩ := hc
        obtain ⟨A, cap, rfl, hcap, hx⟩ := hv.sl_inv
        have c2' : m ≤ (cap : Int) := by omega
        have hrun := run hu hs A (List.length xs) cap c0 c1 c2'
        refine ⟨[], _, _, _, μ, h9, hrun, StepB.refl hB, RV.of_one (u := .dat (.sl e) _) ?_ rfl⟩
        have hlen : (List.take i.toNat xs).length = i.toNat := by rw [List.length_take]; omega
        refine ⟨_, _, by rw [hlen], by rw [hlen]; omega, ?_⟩
        intro hpos
        rw [hlen] at hpos
        obtain ⟨b, o, ds, rfl, hb, hcell, hr⟩ := hx (by omega)
        have hne : ¬ m.toNat = 0 := by omega
        rw [if_neg hne]
        refine ⟨b, o, _, by rw [Option.map_some, Addr.add_lit, Nat.zero_mul, Nat.add_zero], hb, ?_, RepRow.take (R := Rep S w e) (fun x c h => Rep.length h) i.toNat hr⟩
        have := hcell.sub 0 (i.toNat * e.size)
        simpa using this
      · cases h9
    | _ => cases h
  | _ => cases h

end
end Go.Pv
