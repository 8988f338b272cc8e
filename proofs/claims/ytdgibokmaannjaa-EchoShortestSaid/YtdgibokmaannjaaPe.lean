/- A pure reading of the model's code, and that the run does what it says: part e. -/
import Derived.Test.YtdgibokmaannjaaPd
import Derived.LoopN
import Derived.Orders
/- Codes: one operation after another. -/
set_option linter.unusedVariables false
set_option linter.unusedSimpArgs false
namespace Go.Pv

/-- Where a stretch began. -/
structure Base where
  μ : Nat → Option At
  S : Nat → Prop
  w : World
  bl : List (Nat × Blk)
  nb : Nat
  a : Act
  fr : List (Nat × AV)
  T : Prop

/-- Where it is now. D: the slots that may have been written. -/
structure Now (B : Base) (D : Nat → Bool) (μ : Nat → Option At) (S : Nat → Prop) (w : World) (st : St) (a : Act) : Prop where
  step : StepB B.μ B.S B.w B.bl B.nb μ S w st.bl st.nb
  fr : SimF μ S w st.fr a
  size : a.tmps.size = B.a.tmps.size
  keep : ∀ t, D t = false → a.tmps.getD t undef = B.a.tmps.getD t undef
  ext : ∃ ε, st.bl = ε ++ B.bl
  fext : ∃ φ, st.fr = φ ++ B.fr
  mks : Mk B.T B.w.heap.size B.a.defers S w a.defers

/-- What holds at the end. -/
def Post (P : Program) {R : Type} (B : Base) (D : Nat → Bool) (fn : Func) (K : Ex → St → Option R) (KR : AV → St → Option R) (r : R) : Exit → Act → World → Prop
  | .normal, a, w => ∃ μ S st, Now B D μ S w st a ∧ K .normal st = some r
  | .exit i, a, w => ∃ μ S st, Now B D μ S w st a ∧ K (.exit i) st = some r
  | .goto l, a, w => ∃ μ S st, Now B D μ S w st a ∧ K (.goto l) st = some r
  | .ret, a, w => ∃ μ S st v x, StepB B.μ B.S B.w B.bl B.nb μ S w st.bl st.nb ∧ (∃ ε, st.bl = ε ++ B.bl) ∧ Mk B.T B.w.heap.size B.a.defers S w a.defers ∧ KR v st = some r ∧ (results fn a.tmps).run P w = .ok x w ∧ RV μ S w v x
  | _, _, _ => False

/-- Of a loop's slots, those that it may write. -/
def Lent.writesOf : Fs → List Nat → List Nat
  | (.dat _, true) :: r, t :: ts => t :: Lent.writesOf r ts
  | (.own _, true) :: r, t :: ts => t :: Lent.writesOf r ts
  | _ :: r, _ :: ts => Lent.writesOf r ts
  | _, _ => []

def Lent.D (e : Lent) : Nat → Bool := fun t => has (sapp e.writes (Lent.writesOf e.ins e.slots)) t

def slotVals (a : Act) (l : List Nat) : List Value := l.map fun t => a.tmps.getD t undef

/-- Where a loop ends. -/
def LPost (P : Program) (fn : Func) (c : Code) (e : Lent) (S : Nat → Prop) (w : World) (a : Act) (x : e.ins.ty.den) (bs : List Nat) (y : Out e.ins.back.den e.res.ty.den e.exits e.rets) : Exit → Act → World → Prop
  | .exit i, a', w' => ∃ m, Out.exit e.exits e.rets i m = some y ∧ ∃ S' bs', Ran S w bs S' w' bs' ∧ ShX S' w' true e.ins.sh (e.ins.merge x m) (slotVals a' e.slots) bs' ∧ Mk (tmpsOnly fn.results.toList = true) w.heap.size a.defers S' w' a'.defers ∧ a'.tmps.size = a.tmps.size ∧
      ∀ t, t ∉ dstsOf c → a'.tmps.getD t undef = a.tmps.getD t undef
  | .ret, a', w' => ∃ z, Out.ret e.exits e.rets z = some y ∧ ∃ S' bs' v, Ran S w bs S' w' bs' ∧ (results fn a'.tmps).run P w' = .ok v w' ∧ ShR S' w' e.res z v bs' ∧ Mk (tmpsOnly fn.results.toList = true) w.heap.size a.defers S' w' a'.defers
  | _, _, _ => False

/-- Slots that hold functions that have taken hold of other slots' variables. -/
def aliV (a : Act) (q : Nat × Nat × List Nat) : Value :=
  cond (Nat.beq q.2.1 0) (match q.2.2 with | j :: _ => a.tmps.getD j undef | [] => a.tmps.getD q.1 undef) (.func (.func q.2.1) #[] (slotVals a q.2.2).toArray)
def AliAt (a : Act) (l : List (Nat × Nat × List Nat)) : Prop := ∀ q ∈ l, a.tmps.getD q.1 undef = aliV a q

/-- What stands behind a label, run again where it jumps there. -/
def jrounds (P : Program) (c : Code) (l : Nat) (Q : Exit → Act → World → Prop) : Nat → Act → World → Prop
  | 0, _, _ => False
  | n + 1, a, w => c.wp P (fun e a' w' => match e with | .goto l' => l' = l ∧ jrounds P c l Q n a' w' | e => Q e a' w') a w
def LRun (P : Program) (c : Code) : Option Nat → (Exit → Act → World → Prop) → Act → World → Prop
  | none, Q, a, w => (Code.loop c).wp P Q a w
  | some l, Q, a, w => ∃ k, jrounds P c l Q k a w

/-- A loop computes this. -/
def LentOk (P : Program) (fn : Func) (c : Code) (e : Lent) : Prop :=
  (∀ t ∈ dstsOf c, e.D t = true) ∧ e.slots.Nodup ∧ (∀ t ∈ e.slots, t ∉ e.writes) ∧ ∀ (S : Nat → Prop) (w : World) (a : Act) (x : e.ins.ty.den) (bs : List Nat) (y : Out e.ins.back.den e.res.ty.den e.exits e.rets),
    Own S w bs → ShX S w true e.ins.sh x (slotVals a e.slots) bs → AliAt a e.ali → (∀ t ∈ dstsOf c, t < a.tmps.size) → e.fn x = some y → LRun P c e.jmp (LPost P fn c e S w a x bs y) a w

/-- A loop over a function does this. -/
def RngOk (P : Program) (c : Code) (rd : St → Option (Bool × St)) : Prop :=
  ∀ (μ : Nat → Option At) (S : Nat → Prop) (w : World) (st st' : St) (a : Act), rd st = some (true, st') → SimB μ S w st.bl st.nb → SimF μ S w st.fr a → (∀ t ∈ dstsOf c, t < a.tmps.size) →
    c.wp P (fun e a' w' => e = .normal ∧ a'.tmps = a.tmps ∧ ∃ D μ' S', a'.defers = mark D :: a.defers ∧ w.heap.size ≤ D ∧ ¬ S' D ∧ w'.heap[D]? = some (.deferred (some [])) ∧
      StepB μ S w st.bl st.nb μ' S' w' st'.bl st'.nb ∧ SimF μ' S' w' st'.fr a ∧ (∃ ε, st'.bl = ε ++ st.bl) ∧ ∃ φ, st'.fr = φ ++ st.fr) a w

structure LibOk (P : Program) (L : Lib) : Prop where
  order : P.follows .mixedOrders = true
  ti : ∀ t, TiOk P L.ti t
  ent : ∀ f e, e ∈ L.ent f → EntOk P f e
  body : ∀ f fn, L.body f = some fn → P.funcs[f]? = some fn ∧ (fn.name == "runtime.NumGoroutine") = false ∧ ∀ c, fn.body = some c → dstIn (fun t => Nat.blt t fn.ntmps) c = true
  loop : ∀ f n fn c0 c e, e ∈ L.loop f n → P.funcs[f]? = some fn → fn.body = some c0 → (n, c) ∈ loopsIn c0 0 → LentOk P fn c e
  rng : ∀ f n rd fn c0 c, L.rng f n = some rd → P.funcs[f]? = some fn → fn.body = some c0 → (n, c) ∈ rngsIn c0 0 → RngOk P c rd
  opt : ∀ f e, L.opt f = some e → OptOk P f e
  alt : ∀ f e, e ∈ L.alt f → EntOk P f e

/-- What runs a function in place. -/
def InlOk (P : Program) {R : Type} (inl : Nat → AV → St → (AV → St → Option R) → Option R) : Prop :=
  ∀ g as vs st K r μ S w, inl g as st K = some r → SimB μ S w st.bl st.nb → RX μ S w true as vs →
    (∃ fn c, P.funcs[g]? = some fn ∧ fn.body = some c ∧ (fn.name == "runtime.NumGoroutine") = false) ∧
    Calls P g vs.toArray w fun
      | .returned v, w' => ∃ ε nb' μ' S' fr' x, K x ⟨fr', ε ++ st.bl, nb'⟩ = some r ∧ StepB μ S w st.bl st.nb μ' S' w' (ε ++ st.bl) nb' ∧ RV μ' S' w' x v
      | _, _ => False

section
variable {P : Program} {B : Base} {D : Nat → Bool} {μ : Nat → Option At} {S : Nat → Prop} {w : World} {st : St} {a : Act}

theorem Now.go (h : Now B D μ S w st a) {μ' : Nat → Option At} {S' : Nat → Prop} {w' : World} {ε : List (Nat × Blk)} {nb' : Nat} (hs : StepB μ S w st.bl st.nb μ' S' w' (ε ++ st.bl) nb') : Now B D μ' S' w' ⟨st.fr, ε ++ st.bl, nb'⟩ a where
  step := h.step.trans hs
  fr := h.fr.step h.step.1 hs
  size := h.size
  keep := h.keep
  ext := by obtain ⟨δ, e⟩ := h.ext; exact ⟨ε ++ δ, by rw [List.append_assoc, ← e]⟩
  fext := h.fext
  mks := h.mks.step h.step.1 hs

theorem Now.put (h : Now B D μ S w st a) (hD : ∀ t, D t = true → t < B.a.tmps.size) {dst : Option Tmp} (hd : ∀ d, dst = some d → D d = true) {x : AV} {v : Value} (hv : RV μ S w x v) : Now B D μ S w (st.put dst x) (a.put dst v) := by
  cases dst with
  | none => exact h
  | some d =>
    have hd := hd d rfl
    refine ⟨h.step, SimF.put h.fr (by rw [h.size]; exact hD d hd) hv, ?_, ?_, h.ext, by obtain ⟨φ, e⟩ := h.fext; exact ⟨(d, x) :: φ, by rw [List.cons_append, ← e]; rfl⟩, h.mks⟩
    · show (a.tmps.setIfInBounds d v).size = _
      rw [Array.size_setIfInBounds]; exact h.size
    · intro t ht
      have hne : d ≠ t := fun e => by rw [← e, hd] at ht; cases ht
      show (a.tmps.setIfInBounds d v).getD t undef = _
      rw [getD_set _ _ _ _ (by rw [h.size]; exact hD d hd), if_neg hne]
      exact h.keep t ht

/-- A slot's truth value is known now. -/
theorem Now.set (h : Now B D μ S w st a) {d : Nat} {x : AV} (hv : RV μ S w x (a.tmps.getD d undef)) : Now B D μ S w (st.set d x) a := by
  refine ⟨h.step, ⟨fun t v ht => ?_⟩, h.size, h.keep, h.ext, by obtain ⟨φ, e⟩ := h.fext; exact ⟨(d, x) :: φ, by rw [List.cons_append, ← e]; rfl⟩, h.mks⟩
  rw [St.set, lk_cons] at ht
  by_cases hdt : d = t
  · rw [if_pos hdt] at ht; cases ht; rw [← hdt]; exact hv
  · rw [if_neg hdt] at ht; exact h.fr.slot t v ht

theorem RL.app : ∀ {c1 c2 : AV} {v1 v2 : List Value}, RX μ S w true c1 v1 → RX μ S w true c2 v2 → RX μ S w true (AV.app c1 c2) (v1 ++ v2) := by
  intro c1
  induction c1 with
  | cons a b iha ihb =>
    intro c2 v1 v2 h1 h2
    obtain ⟨v, r, e, h3, h4⟩ := h1
    subst e
    exact ⟨v, r ++ v2, rfl, h3, ihb h4 h2⟩
  | un => intro c2 v1 v2 h1 h2; have h1 : v1 = [] := h1; subst h1; exact h2
  | _ => intro c2 v1 v2 h1; exact h1.elim

theorem isCall_some {o : Op} {f : Operand} {args : List Operand} (h : isCall o = some (f, args)) : ∃ c, o = .call c ∧ c.callee = .value f ∧ c.args.toList = args := by
  unfold isCall at h
  split at h
  · rename_i c
    split at h
    · rename_i f' hc; cases h; exact ⟨c, rfl, hc, rfl⟩
    · cases h
  · cases h

/-- A function value is called. -/
theorem run_call {o : Oper} {c : Call} {f : Operand} (ho : o.op = .call c) (hc : c.callee = .value f) {g : Nat} {caps : List Value} (hf : a.eval f = .func (.func g) #[] caps.toArray) {fn : Func} {cd : Code} (hfn : P.funcs[g]? = some fn) (hb : fn.body = some cd) (hn : (fn.name == "runtime.NumGoroutine") = false) :
    (execOp a.eval o).run P w = .ok (.enter g ((c.args.toList.map a.eval) ++ caps).toArray) w := by
  have e : (#[] : Array Value) ++ c.args.map a.eval ++ caps.toArray = ((c.args.toList.map a.eval) ++ caps).toArray := by
    apply Array.ext'; simp
  rw [execOp, ho]
  simp only [Sem.run_bind, resolve, hc, hf, Deferred.ofValue, Sem.run_pure, Result.andThen_ok, invoke, callFunc, run_program, hfn, hn, Bool.false_eq_true, if_false, hb, Option.isNone_some, e]

/-- A variable is not written any more. -/
theorem Now.frz1 (h : Now B D μ S w st a) {k : Nat} {u : Ty} {x : u.den} (hk : lk st.bl k = some (.box (.dat u x))) : ∃ S', Now B D μ S' w (frz1 st k u x) a := by
  have hB := h.step.1
  have hs := StepB.kill hB [k]
  obtain ⟨p, hp, hnl, cs, ty, hc, hrep⟩ := hB.blk k _ hk
  have hof : Of μ st.bl [k] p.b := ⟨k, by simp, _, p, hk, by simp, hp, hnl, rfl⟩
  refine ⟨_, h.step.trans hs, ⟨fun t v ht => ?_⟩, h.size, h.keep, ?_, ?_, h.mks.step hB hs⟩
  · have split : ∀ {φ fr : List (Nat × AV)}, lk (φ ++ fr) t = some v → (t, v) ∈ φ ∨ lk fr t = some v := by
      intro φ fr h
      induction φ with
      | nil => exact .inr h
      | cons q r ih =>
        rw [List.cons_append, lk_cons] at h
        by_cases hq : q.1 = t
        · rw [if_pos hq] at h; cases h; subst hq; exact .inl (by simp)
        · rw [if_neg hq] at h
          exact (ih h).imp (List.mem_cons_of_mem _) id
    have ht : lk (sapp (skeep (fun p => match lk st.fr p.1 with
      | some (.ptr j 0) => cond (Nat.beq j k) (some (p.1, AV.iptr u x)) none
      | _ => none) st.fr) st.fr) t = some v := ht
    rw [sapp_eq] at ht
    rcases split ht with hin | ht
    · have : ∀ l : List (Nat × AV), (t, v) ∈ skeep (fun p => match lk st.fr p.1 with
        | some (.ptr j 0) => cond (Nat.beq j k) (some (p.1, AV.iptr u x)) none
        | _ => none) l → lk st.fr t = some (.ptr k 0) ∧ v = .iptr u x := by
        intro l
        induction l with
        | nil => intro h; cases h
        | cons q r ih =>
          intro h
          rw [skeep] at h
          split at h
          · rename_i y hy
            rcases List.mem_cons.1 h with h | h
            · subst h
              split at hy
              · rename_i j hj
                cases hjk : Nat.beq j k with
                | false => rw [hjk] at hy; cases hy
                | true =>
                  rw [hjk] at hy
                  have hjk := beq_true hjk
                  subst hjk
                  cases hy
                  exact ⟨hj, rfl⟩
              · cases hy
            · exact ih h
          · exact ih h
      obtain ⟨h1, rfl⟩ := this _ hin
      obtain ⟨q, hq, e⟩ := (h.fr.slot t _ h1).ptr_inv
      rw [hp] at hq; cases hq
      refine RV.of (a := .iptr u x) ⟨p.b, 0, cs, by rw [e], .inr hof, CellsAt.heap hc, Rep.move (fun _ h => .inl h) (fun _ _ => rfl) hrep⟩
    · exact (h.fr.slot t v ht).step hB hs
  · obtain ⟨ε, e⟩ := h.ext
    exact ⟨(k, .dead) :: ε, by show (k, Blk.dead) :: st.bl = _; rw [e]; rfl⟩
  · obtain ⟨φ, e⟩ := h.fext
    exact ⟨skeep _ st.fr ++ φ, by show sapp _ st.fr = _; rw [sapp_eq, List.append_assoc, ← e]⟩

theorem Now.frzL : ∀ (l : List Operand) {S : Nat → Prop} {st : St}, Now B D μ S w st a → ∃ S', Now B D μ S' w (frzL l st) a
  | [], S, st, h => ⟨S, h⟩
  | .tmp t :: r, S, st, h => by
    rw [Pv.frzL]
    split
    · split
      · rename_i k _ u x hk
        obtain ⟨S', h'⟩ := h.frz1 hk
        exact Now.frzL r h'
      · exact Now.frzL r h
    · exact Now.frzL r h
  | .const _ :: r, S, st, h => Now.frzL r (st := st) h
  | .func _ :: r, S, st, h => Now.frzL r (st := st) h
  | .global _ :: r, S, st, h => Now.frzL r (st := st) h

/-- A row goes over into the memory that is never written. -/
theorem Now.frzR (h : Now B D μ S w st a) {k : Nat} {e : Ty} {xs : List e.den} (hk : lk st.bl k = some (.row e xs)) : ∃ S', Now B D μ S' w (frzR st k e xs) a := by
  have hB := h.step.1
  have hs := StepB.kill hB [k]
  refine ⟨_, h.step.trans hs, ⟨fun t v ht => ?_⟩, h.size, h.keep, ?_, ?_, h.mks.step hB hs⟩
  · have split : ∀ {φ fr : List (Nat × AV)}, lk (φ ++ fr) t = some v → (t, v) ∈ φ ∨ lk fr t = some v := by
      intro φ fr h
      induction φ with
      | nil => exact .inr h
      | cons q r ih =>
        rw [List.cons_append, lk_cons] at h
        by_cases hq : q.1 = t
        · rw [if_pos hq] at h; cases h; subst hq; exact .inl (by simp)
        · rw [if_neg hq] at h
          exact (ih h).imp (List.mem_cons_of_mem _) id
    have ht : lk (sapp (skeep (fun p => match lk st.fr p.1 with
      | some (.own j) => cond (Nat.beq j k) (some (p.1, AV.dat (.sl e) xs)) none
      | _ => none) st.fr) st.fr) t = some v := ht
    rw [sapp_eq] at ht
    rcases split ht with hin | ht
    · have : ∀ l : List (Nat × AV), (t, v) ∈ skeep (fun p => match lk st.fr p.1 with
        | some (.own j) => cond (Nat.beq j k) (some (p.1, AV.dat (.sl e) xs)) none
        | _ => none) l → lk st.fr t = some (.own k) ∧ v = .dat (.sl e) xs := by
        intro l
        induction l with
        | nil => intro h; cases h
        | cons q r ih =>
          intro h
          rw [skeep] at h
          split at h
          · rename_i y hy
            rcases List.mem_cons.1 h with h | h
            · subst h
              split at hy
              · rename_i j hj
                cases hjk : Nat.beq j k with
                | false => rw [hjk] at hy; cases hy
                | true =>
                  rw [hjk] at hy
                  have hjk := beq_true hjk
                  subst hjk
                  cases hy
                  exact ⟨hj, rfl⟩
              · cases hy
            · exact ih h
          · exact ih h
      obtain ⟨h1, rfl⟩ := this _ hin
      exact RV.of (a := .dat (.sl e) xs) (RB.slice hB hk ((h.fr.slot t _ h1).to (by simp) (by simp)) (fun _ h => .inl h) (fun _ h => .inr h))
    · exact (h.fr.slot t v ht).step hB hs
  · obtain ⟨ε, e⟩ := h.ext
    exact ⟨(k, .dead) :: ε, by show (k, Blk.dead) :: st.bl = _; rw [e]; rfl⟩
  · obtain ⟨φ, e⟩ := h.fext
    exact ⟨skeep _ st.fr ++ φ, by show sapp _ st.fr = _; rw [sapp_eq, List.append_assoc, ← e]⟩

theorem Now.frzRs : ∀ (l : List (Nat × Operand)) {S : Nat → Prop} {st : St}, Now B D μ S w st a → ∃ S', Now B D μ S' w (frzRs l st) a
  | [], S, st, h => ⟨S, h⟩
  | (_, .tmp t) :: r, S, st, h => by
    rw [Pv.frzRs]
    split
    · split
      · rename_i k _ e xs hk
        obtain ⟨S', h'⟩ := h.frzR hk
        exact Now.frzRs r h'
      · exact Now.frzRs r h
    · exact Now.frzRs r h
  | (_, .const _) :: r, S, st, h => Now.frzRs r (st := st) h
  | (_, .func _) :: r, S, st, h => Now.frzRs r (st := st) h
  | (_, .global _) :: r, S, st, h => Now.frzRs r (st := st) h

theorem Now.freeze (L : Lib) (o : Oper) (h : Now B D μ S w st a) : ∃ S', Now B D μ S' w (freeze L st o) a := by
  unfold Pv.freeze
  split
  · cases L.frz _ with
    | true => exact h.frzL _
    | false => exact ⟨S, h⟩
  · exact h.frzRs _
  · exact ⟨S, h⟩

/-- One operation. -/
theorem Now.frzCall (L : Lib) (f : Operand) (args : List Operand) (h : Now B D μ S w st a) : ∃ S', Now B D μ S' w (frzCall L st f args) a := by
  unfold Pv.frzCall
  split
  · cases L.frz _ with
    | true => exact h.frzRs _
    | false => exact ⟨S, h⟩
  · exact ⟨S, h⟩

theorem doOp_ok {R : Type} {L : Lib} (hL : LibOk P L) {inl : Nat → AV → St → (AV → St → Option R) → Option R} (hI : InlOk P inl) (hD : ∀ t, D t = true → t < B.a.tmps.size) {o : Oper} (ho : ∀ d, o.dst = some d → D d = true)
    {K : St → Option R} {r : R} (h : doOp L inl st o K = some r) (hn : Now B D μ S w st a) {next : Act → World → Prop} {Q : Exit → Act → World → Prop}
    (hK : ∀ μ' S' w' st' a', Now B D μ' S' w' st' a' → K st' = some r → next a' w') : o.wp P a w next Q := by
  have hB := hn.step.1
  unfold doOp at h
  split at h
  · obtain ⟨Sf, hnf⟩ := hn.freeze L o
    obtain ⟨ε, nb', x, μ', S', w', v, nx, h1, h2, h3, h4, h5⟩ := opAV_ok hL.ti rfl hnf.step.1 hnf.fr h
    have := (hnf.go h4).put hD ho h5
    have hfin := hK _ _ _ _ _ this h1
    unfold Oper.wp
    rw [h2]
    rcases h3 with rfl | ⟨rfl, rfl⟩
    · exact hfin
    · exact hfin
  · rename_i f args hcall
    obtain ⟨S0, hn0⟩ := hn.frzCall L f args
    clear hB hn
    generalize Pv.frzCall L st f args = st at h hn0
    have hn := hn0
    have hB := hn.step.1
    unfold doCall at h
    obtain ⟨c, hoc, hcc, hca⟩ := isCall_some hcall
    obtain ⟨v, hv, h⟩ := ob_some h
    have hrf := (St.opd_ok hn.fr hv).1
    split at h
    · rename_i g cap
      obtain ⟨as, has, h⟩ := ob_some h
      have hras := opds_ok hn.fr has
      obtain ⟨caps, e1, hrc⟩ := hrf.to (by simp) (by simp)
      simp only [List.cons.injEq, and_true] at e1
      have happ := RL.app hras hrc
      have go : (∃ fn c, P.funcs[g]? = some fn ∧ fn.body = some c ∧ (fn.name == "runtime.NumGoroutine") = false) → Calls P g (args.map a.eval ++ caps).toArray w (fun
          | .returned v, w' => ∃ ε nb' x μ' S', K (St.put ⟨st.fr, ε ++ st.bl, nb'⟩ o.dst x) = some r ∧ StepB μ S0 w st.bl st.nb μ' S' w' (ε ++ st.bl) nb' ∧ RV μ' S' w' x v
          | _, _ => False) → o.wp P a w next Q := by
        rintro ⟨fn, cd, g1, g2, g3⟩ hcalls
        unfold Oper.wp
        rw [run_call hoc hcc e1 g1 g2 g3, hca, Oper.upon_enter]
        refine Calls.mono hcalls ?_
        intro en w' hen
        cases en with
        | panicked c => exact hen.elim
        | outgrown => exact hen.elim
        | returned v =>
          obtain ⟨ε, nb', x, μ', S', k1, k2, k3⟩ := hen
          exact hK _ _ _ _ _ ((hn.go k2).put hD ho k3) k1
      split at h
      · rename_i e0 he0
        have hO := hL.opt g e0 he0
        exact go hO.1 (callOpt_ok hB happ hO h)
      split at h
      rotate_left
      · rename_i l hl
        have hE : ∀ e ∈ L.alt g, EntOk P g e := fun e he => hL.alt g e he
        cases hlg : L.alt g with
        | nil => exact absurd hlg hl
        | cons e0 es =>
          refine go (hE e0 (by rw [hlg]; simp)).1 (callAlt_ok hB happ hE h)
      split at h
      · obtain ⟨i1, i2⟩ := hI g _ _ st _ r μ S0 w h hB happ
        refine go i1 (Calls.mono i2 ?_)
        intro en w' hen
        cases en with
        | panicked c => exact hen
        | outgrown => exact hen
        | returned v =>
          obtain ⟨ε, nb', μ', S', fr', x, k1, k2, k3⟩ := hen
          exact ⟨ε, nb', x, μ', S', k1, k2, k3⟩
      · rename_i l hl
        have hE : ∀ e ∈ L.ent g, EntOk P g e := fun e he => hL.ent g e he
        cases hlg : L.ent g with
        | nil => exact absurd hlg hl
        | cons e0 es =>
          refine go (hE e0 (by rw [hlg]; simp)).1 (callEnt_ok hB happ hE h)
    · cases h

theorem loadAt_asAddr {t : TypeId} {v u : Value} {w' : World} (h : (Instr.loadAt t v).run P w = .ok u w') : (do loadVar t (← asAddr v) : Sem Value).run P w = .ok u w' := by
  cases v with
  | pointer p =>
    cases p with
    | some p => simpa [Instr.loadAt, Instr.sureAddr, asAddr] using h
    | none => simp [Instr.loadAt, Instr.sureAddr] at h
  | _ => simp [Instr.loadAt, Instr.sureAddr] at h

def resOf (tmps : Array Value) (r : ResultVar) : Sem Value :=
  match r with
  | .tmp t => pure (tmps.getD t undef)
  | .cell c t => do loadVar t (← asAddr (tmps.getD c undef))

theorem resAV_ok {L : Lib} (hT : ∀ t, TiOk P L.ti t) (hB : SimB μ S w st.bl st.nb) (hf : SimF μ S w st.fr a) : ∀ {l : List ResultVar} {v : AV}, resAV L st l = some v →
    ∃ vs : List Value, (l.mapM (resOf a.tmps)).run P w = .ok vs w ∧ RX μ S w true v vs
  | [], v, h => by rw [resAV] at h; cases h; exact ⟨[], by simp, rfl⟩
  | .tmp t :: r, v, h => by
    rw [resAV] at h
    obtain ⟨u, hu, h⟩ := ob_some h
    obtain ⟨z, hz, h⟩ := ob_some h
    cases h
    obtain ⟨vs, h1, h2⟩ := resAV_ok hT hB hf hz
    obtain ⟨g1, g2, g3⟩ := one_some hu
    refine ⟨a.tmps.getD t undef :: vs, ?_, ⟨_, _, rfl, RX.item (hf.slot t u g1) g2 g3, h2⟩⟩
    rw [List.mapM_cons]
    simp only [resOf, Sem.run_bind, Sem.run_pure, Result.andThen_ok, h1]
  | .cell c t :: r, v, h => by
    rw [resAV] at h
    obtain ⟨p, hp, h⟩ := ob_some h
    obtain ⟨u, hu, h⟩ := ob_some h
    obtain ⟨z, hz, h⟩ := ob_some h
    cases h
    obtain ⟨vs, h1, h2⟩ := resAV_ok hT hB hf hz
    obtain ⟨g1, g2, g3⟩ := one_some hp
    obtain ⟨d, k1, k2, k3, k4⟩ := load_ok hT rfl hB hu (hf.slot c p g1)
    refine ⟨d :: vs, ?_, ⟨_, _, rfl, RX.item k2 k3 k4, h2⟩⟩
    have k1 := loadAt_asAddr k1
    rw [List.mapM_cons]
    simp only [resOf, Sem.run_bind] at k1 ⊢
    rw [k1]
    simp only [Sem.run_pure, Result.andThen_ok, h1]

theorem results_ok {L : Lib} (hT : ∀ t, TiOk P L.ti t) (hB : SimB μ S w st.bl st.nb) (hf : SimF μ S w st.fr a) {fn : Func} {v : AV} (h : resAV L st fn.results.toList = some v) :
    ∃ x, (results fn a.tmps).run P w = .ok x w ∧ RV μ S w (resOne v) x := by
  obtain ⟨vs, h1, h2⟩ := resAV_ok hT hB hf h
  have hrun : (results fn a.tmps).run P w = .ok (if h : vs.toArray.size = 1 then vs.toArray[0] else .tuple vs.toArray) w := by
    have e0 : results fn a.tmps = (do
        let vs ← fn.results.mapM (resOf a.tmps)
        pure (if h : vs.size = 1 then vs[0] else .tuple vs) : Sem Value) := by
      unfold results
      congr 2
    have e : (fn.results.mapM (resOf a.tmps)).run P w = .ok vs.toArray w := by
      rw [Array.mapM_eq_mapM_toList, Sem.run_map]
      rw [h1]; rfl
    rw [e0, Sem.run_bind, e]
    rfl
  refine ⟨_, hrun, ?_⟩
  cases v with
  | un => trivial
  | cons a b =>
    obtain ⟨d, r, e, h3, h4⟩ := h2
    subst e
    cases b with
    | un =>
      have h4 : r = [] := h4
      subst h4
      exact RV.of h3
    | cons c e =>
      obtain ⟨d', r', e', _, _⟩ := h4
      subst e'
      have : ¬ ((d :: d' :: r').toArray.size = 1) := by simp
      rw [dif_neg this]
      exact .inr ⟨_, rfl, d, _, rfl, h3, d', r', rfl, by assumption, by assumption⟩
    | _ => exact h4.elim
  | _ => exact h2.elim

theorem dstOf_eq (ops : Array Oper) (j : Nat) : dstOf ops.toList j = (ops[j]?).bind (·.dst) := by
  unfold dstOf
  rw [snth_eq, Array.getElem?_toList]
  cases ops[j]? <;> rfl

theorem guarded_ok {R : Type} {L : Lib} (hL : LibOk P L) {inl : Nat → AV → St → (AV → St → Option R) → Option R} (hI : InlOk P inl) (hD : ∀ t, D t = true → t < B.a.tmps.size) {ops : Array Oper} {i : Nat} {o : Oper} (hi : ops[i]? = some o) (ho : ∀ d, o.dst = some d → D d = true)
    {K : St → Option R} {r : R} (h : guarded (fun st K => doOp L inl st o K) ops.toList st o K = some r) (hn : Now B D μ S w st a) {next : Act → World → Prop} {Q : Exit → Act → World → Prop}
    (hK : ∀ μ' S' w' st' a', Now B D μ' S' w' st' a' → K st' = some r → next a' w') : wpOp P ops Q i next a w := by
  unfold wpOp
  rw [hi]
  dsimp only
  unfold guarded at h
  split at h
  · rename_i hg
    have hw : Region.wanted o (yielded ops a.tmps) = true := by simp [Region.wanted, hg]
    rw [if_pos hw]
    exact .inl (doOp_ok hL hI hD ho h hn hK)
  · rename_i j want hg
    obtain ⟨d, hd, h⟩ := ob_some h
    obtain ⟨v, hv, h⟩ := ob_some h
    split at h
    · rename_i b
      have hrv := hn.fr.slot d _ hv
      have hb := hrv.bool_inv
      rw [dstOf_eq] at hd
      have hlt : d < a.tmps.size := by
        rcases Nat.lt_or_ge d a.tmps.size with h1 | h1
        · exact h1
        · rw [Array.getD_eq_getD_getElem?, Array.getElem?_eq_none h1] at hb
          cases hb
      have hy : yielded ops a.tmps j = some b := by
        unfold yielded
        rw [hd]
        have : a.tmps[d]? = some (.bool b) := by
          rw [Array.getD_eq_getD_getElem?, Array.getElem?_eq_getElem hlt] at hb
          rw [Array.getElem?_eq_getElem hlt]
          simpa using hb
        simp [this]
      have hw : Region.wanted o (yielded ops a.tmps) = (b == want) := by simp [Region.wanted, hg, hy]
      have hset : Now B D μ S w (st.set d (.dat .bool b)) a := hn.set hrv
      have hskip : K ((st.set d (.dat .bool b)).put o.dst (.cons .junk .un)) = some r → next (a.put o.dst undef) w := fun hk =>
        hK _ _ _ _ _ (hset.put hD ho (x := .cons .junk .un) (.inl ⟨rfl, rfl, rfl⟩)) hk
      rw [hw]
      cases b with
      | true =>
        cases want with
        | true => exact .inl (doOp_ok hL hI hD ho h hset hK)
        | false => exact hskip h
      | false =>
        cases want with
        | true => exact hskip h
        | false => exact .inl (doOp_ok hL hI hD ho h hset hK)
    · rcases hn.fr.slot d _ hv with ⟨_, _, hb⟩ | ⟨vs, _, hb⟩
      · rw [dstOf_eq] at hd
        have hy : yielded ops a.tmps j = none := by
          unfold yielded
          rw [hd]
          rw [Array.getD_eq_getD_getElem?] at hb
          cases hx : a.tmps[d]? with
          | none => simp [hx]
          | some z =>
            rw [hx] at hb
            have hb : z = undef := hb
            subst hb
            simp [hx, undef]
        have hw : Region.wanted o (yielded ops a.tmps) = false := by simp [Region.wanted, hg, hy]
        rw [hw]
        exact hK _ _ _ _ _ (hn.put hD ho (x := .cons .junk .un) (.inl ⟨rfl, rfl, rfl⟩)) h
      · obtain ⟨_, _, _, h0, _⟩ := hb
        exact h0.elim
    · cases h

theorem mem_opsDsts : ∀ {l : List Oper} {o : Oper} {d : Nat}, o ∈ l → o.dst = some d → d ∈ opsDsts l
  | [], o, d, ho, _ => by simp at ho
  | o' :: l, o, d, ho, hd => by
    rcases List.mem_cons.1 ho with rfl | ho
    · simp [opsDsts, skeep, hd]
    · have := mem_opsDsts ho hd
      unfold opsDsts at this ⊢
      rw [skeep]
      cases o'.dst with
      | none => exact this
      | some _ => exact List.mem_cons_of_mem _ this

theorem opsIn_ok {l : List Oper} (h : ∀ t ∈ opsDsts l, D t = true) : ∀ o ∈ l, ∀ d, o.dst = some d → D d = true := fun o ho d hd => h d (mem_opsDsts ho hd)

/-- A region in its order. -/
theorem seqOps_ok {R : Type} {L : Lib} (hL : LibOk P L) {inl : Nat → AV → St → (AV → St → Option R) → Option R} (hI : InlOk P inl) (hD : ∀ t, D t = true → t < B.a.tmps.size) {ops : Array Oper} (hdst : ∀ t ∈ opsDsts ops.toList, D t = true)
    {K : St → Option R} {r : R} {Q : Exit → Act → World → Prop} (hK : ∀ μ' S' w' st' a', Now B D μ' S' w' st' a' → K st' = some r → Q .normal a' w') :
    ∀ {l : List Oper} {i : Nat} {μ S w st a}, ops.toList.drop i = l → seqOps L inl ops.toList l st K = some r → Now B D μ S w st a → wpOps P ops Q (List.range' i l.length) a w
  | [], i, μ, S, w, st, a, hl, h, hn => by
    rw [seqOps] at h
    exact hK _ _ _ _ _ hn h
  | o :: l, i, μ, S, w, st, a, hl, h, hn => by
    rw [seqOps] at h
    have hi : ops[i]? = some o := by
      rw [← Array.getElem?_toList, ← Nat.add_zero i, ← List.getElem?_drop, hl]; rfl
    have hmem : o ∈ ops.toList := List.mem_of_getElem? (by rw [Array.getElem?_toList]; exact hi)
    rw [List.length_cons, List.range'_succ, wpOps_cons]
    refine guarded_ok hL hI hD hi (opsIn_ok hdst o hmem) h hn ?_
    intro μ' S' w' st' a' hn' hk
    refine seqOps_ok hL hI hD hdst hK ?_ hk hn'
    rw [← List.drop_drop, hl]; rfl

end
end Go.Pv

/- Whatever follows, an operation is read the same. -/
set_option linter.unusedVariables false
set_option linter.unusedSimpArgs false
namespace Go.Pv

theorem ob_ob {α β γ : Type} (o : Option α) (f : α → Option β) (k : β → Option γ) : ob (ob o f) k = ob o fun x => ob (f x) k := by cases o <;> rfl
theorem ob_congr {α β : Type} {o : Option α} {f g : α → Option β} (h : ∀ x, f x = g x) : ob o f = ob o g := by
  have : f = g := funext h
  rw [this]
theorem ob_cond {α β : Type} (c : Bool) (a b : Option α) (k : α → Option β) : ob (cond c a b) k = cond c (ob a k) (ob b k) := by cases c <;> rfl
theorem ob_ite {α β : Type} (c : Prop) [Decidable c] (a b : Option α) (k : α → Option β) : ob (if c then a else b) k = if c then ob a k else ob b k := by split <;> rfl
theorem ob_none {α β : Type} (k : α → Option β) : ob none k = none := rfl
theorem cond_congr {α : Type} {c : Bool} {a b a' b' : α} (h1 : a = a') (h2 : b = b') : cond c a b = cond c a' b' := by rw [h1, h2]
theorem ite_same {α : Type} {c : Prop} [Decidable c] {a b a' b' : α} (h1 : a = a') (h2 : b = b') : (if c then a else b) = if c then a' else b' := by rw [h1, h2]

section
variable {X R : Type} {L : Lib} {k : X → Option R}

theorem binI_nat {op : BinOp} {kk : IntKind} {x y : Int} {K : AV → Option X} : binI op kk x y (fun s => ob (K s) k) = ob (binI op kk x y K) k := by
  unfold binI
  cases op <;> simp only [ob_ob, ob_cond, ob_ite, ob_none]

theorem shiftI_nat {op : BinOp} {kk : IntKind} {x y : Int} {K : AV → Option X} : shiftI op kk x y (fun s => ob (K s) k) = ob (shiftI op kk x y K) k := by
  unfold shiftI
  cases op <;> simp only [ob_ob, ob_cond, ob_ite, ob_none]

theorem binAV_nat {op : BinOp} {t : Nat} {a b : AV} {K : AV → Option X} : binAV L op t a b (fun s => ob (K s) k) = ob (binAV L op t a b K) k := by
  unfold binAV
  repeat' first
    | rfl
    | exact binI_nat
    | exact shiftI_nat
    | (rw [ob_cond]; apply cond_congr)
    | (rw [ob_ite]; apply ite_same)
    | split

theorem boundOf_nat {st : St} {o : Option Operand} {d : Int} {K : Int → Option X} : boundOf st o d (fun s => ob (K s) k) = ob (boundOf st o d K) k := by
  unfold boundOf
  split
  · rfl
  · rw [ob_ob]
    refine ob_congr fun v => ?_
    split <;> rfl

theorem indexAddrAV_nat {st : St} {t : Nat} {x : AV} {i : Int} {K : AV → Option X} : indexAddrAV L st t x i (fun s => ob (K s) k) = ob (indexAddrAV L st t x i K) k := by
  unfold indexAddrAV
  repeat' first
    | rfl
    | (rw [ob_cond]; apply cond_congr)
    | (rw [ob_ite]; apply ite_same)
    | split

theorem boundOf_nat2 {st : St} {o : Option Operand} {d : Int} {K K' : Int → Option R} (h : ∀ i, K i = K' i) : boundOf st o d K = boundOf st o d K' := by
  have : K = K' := funext h
  rw [this]

theorem sliceAV_nat {st : St} {t : Nat} {x : AV} {lo hi : Option Operand} {K : St → AV → Option X} : sliceAV L st t x lo hi (fun s u => ob (K s u) k) = ob (sliceAV L st t x lo hi K) k := by
  have key : ∀ {n : Int} {F : Int → Int → Option X}, (boundOf st hi n fun h => boundOf st lo 0 fun l => ob (F h l) k) = ob (boundOf st hi n fun h => boundOf st lo 0 fun l => F h l) k := by
    intro n F
    rw [← boundOf_nat]
    refine boundOf_nat2 fun h => ?_
    rw [← boundOf_nat]
  have key2 : ∀ {n : Int} {c : Int → Int → Prop} [∀ h l, Decidable (c h l)] {F : Int → Int → Option X}, (boundOf st hi n fun h => boundOf st lo 0 fun l => if c h l then ob (F h l) k else none) = ob (boundOf st hi n fun h => boundOf st lo 0 fun l => if c h l then F h l else none) k := by
    intro n c _ F
    rw [← key]
    refine boundOf_nat2 fun h => boundOf_nat2 fun l => ?_
    rw [ob_ite]; rfl
  unfold sliceAV
  repeat' first
    | rfl
    | exact key2 (c := fun h l => 0 ≤ l ∧ l ≤ h ∧ h ≤ _)
    | (rw [ob_cond]; apply cond_congr)
    | split

theorem appendAV_nat {st : St} {e : Ty} {n : Nat} {s x : AV} {K : St → AV → Option X} : appendAV st e n s x (fun s u => ob (K s u) k) = ob (appendAV st e n s x K) k := by
  unfold appendAV
  repeat' first
    | rfl
    | (rw [ob_cond]; apply cond_congr)
    | (rw [ob_ite]; apply ite_same)
    | (rw [ob_ob]; all_goals fail)
    | (rw [ob_ob]; refine ob_congr fun _ => ?_)
    | split

theorem builtinAV_nat {st : St} {b : Builtin} {args : List Operand} {ts : List TypeId} {K : St → AV → Option X} : builtinAV L st b args ts (fun s u => ob (K s u) k) = ob (builtinAV L st b args ts K) k := by
  unfold builtinAV
  repeat' first
    | rfl
    | exact appendAV_nat
    | (rw [ob_cond]; apply cond_congr)
    | (rw [ob_ob]; all_goals fail)
    | (rw [ob_ob]; refine ob_congr fun _ => ?_)
    | split

theorem slice3AV_nat {st : St} {t : Nat} {x : AV} {hi mx : Operand} {K : St → AV → Option X} : slice3AV L st t x hi mx (fun s u => ob (K s u) k) = ob (slice3AV L st t x hi mx K) k := by
  unfold slice3AV
  rw [← boundOf_nat]
  congr 1
  funext h
  rw [← boundOf_nat]
  congr 1
  funext m
  repeat' first
    | rfl
    | (rw [ob_cond]; apply cond_congr)
    | (rw [ob_ite]; apply ite_same)
    | split
theorem nilop_nat {op : BinOp} {b : Bool} {K : AV → Option X} : nilop op b (fun v => ob (K v) k) = ob (nilop op b K) k := by
  unfold nilop
  split <;> rfl
theorem nilcmp_nat {op : BinOp} {t : Nat} {b : Bool} {a : AV} {K : AV → Option X} : nilcmp L op t b a (fun v => ob (K v) k) = ob (nilcmp L op t b a K) k := by
  unfold nilcmp
  split
  · split
    · exact nilop_nat
    · rfl
  · split
    · exact nilop_nat
    · exact nilop_nat
    · rfl
  · rfl

theorem opAV_nat {st : St} {o : Oper} {K : St → Option X} : opAV L st o (fun s => ob (K s) k) = ob (opAV L st o K) k := by
  unfold opAV
  repeat' first
    | rfl
    | exact binAV_nat
    | exact indexAddrAV_nat
    | exact sliceAV_nat
    | exact slice3AV_nat
    | exact nilcmp_nat
    | exact builtinAV_nat
    | (rw [ob_cond]; apply cond_congr)
    | (rw [ob_ite]; apply ite_same)
    | (rw [ob_ob]; all_goals fail)
    | (rw [ob_ob]; refine ob_congr fun _ => ?_)
    | split

theorem callOpt_nat {st : St} {args : AV} {dst : Option Tmp} {K : St → Option X} {e : Opt} : callOpt st args dst (fun s => ob (K s) k) e = ob (callOpt st args dst K e) k := by
  unfold callOpt
  rw [ob_ob]
  refine ob_congr fun g => ?_
  rw [ob_cond]
  refine cond_congr ?_ rfl
  rw [ob_ob]
  refine ob_congr fun y => ?_
  cases y <;> rfl
theorem callEnt_nat {st : St} {args : AV} {dst : Option Tmp} {K : St → Option X} : ∀ {l : List Ent}, callEnt st args dst (fun s => ob (K s) k) l = ob (callEnt st args dst K l) k
  | [] => rfl
  | e :: es => by
    rw [callEnt, callEnt]
    split
    · rw [ob_cond]
      apply cond_congr
      · rw [ob_cond]
        apply cond_congr
        · rw [ob_ob]
        · rfl
      · rw [ob_cond]
        apply cond_congr
        · rw [ob_ob]
          refine ob_congr fun y => ?_
          rw [ob_ob]
        · rfl
    · exact callEnt_nat

theorem callAlt_nat {st : St} {args : AV} {dst : Option Tmp} {K : St → Option X} : ∀ {l : List Ent}, callAlt st args dst (fun s => ob (K s) k) l = ob (callAlt st args dst K l) k
  | [] => rfl
  | [e] => callEnt_nat
  | e :: e' :: es => by
    rw [callAlt, callAlt]
    split
    · rename_i g _
      cases e.fn g.x with
      | none => exact callAlt_nat
      | some y => exact callEnt_nat
    · exact callAlt_nat

/-- What runs functions in place: the same whatever follows. -/
def InlK (inl : Nat → AV → St → (AV → St → Option R) → Option R) (inlX : Nat → AV → St → (AV → St → Option X) → Option X) (k : X → Option R) : Prop :=
  ∀ g as st K, inl g as st (fun x s => ob (K x s) k) = ob (inlX g as st K) k

theorem doCall_nat {inl : Nat → AV → St → (AV → St → Option R) → Option R} {inlX : Nat → AV → St → (AV → St → Option X) → Option X} (hI : InlK inl inlX k) {st : St} {dst : Option Nat} {f : Operand} {args : List Operand} {K : St → Option X} :
    doCall L inl st dst f args (fun s => ob (K s) k) = ob (doCall L inlX st dst f args K) k := by
  unfold doCall
  rw [ob_ob]
  refine ob_congr fun v => ?_
  split
  · rw [ob_ob]
    refine ob_congr fun c => ?_
    split
    · exact callOpt_nat
    split
    · split
      · exact hI _ _ _ _
      · exact callEnt_nat
    · exact callAlt_nat
  · rfl
theorem doOp_nat {inl : Nat → AV → St → (AV → St → Option R) → Option R} {inlX : Nat → AV → St → (AV → St → Option X) → Option X} (hI : InlK inl inlX k) {st : St} {o : Oper} {K : St → Option X} :
    doOp L inl st o (fun s => ob (K s) k) = ob (doOp L inlX st o K) k := by
  unfold doOp
  split
  · exact opAV_nat
  · exact doCall_nat hI

theorem guarded_nat {run : St → (St → Option R) → Option R} {runX : St → (St → Option X) → Option X} (hr : ∀ st K, run st (fun s => ob (K s) k) = ob (runX st K) k) {ops : List Oper} {st : St} {o : Oper} {K : St → Option X} :
    guarded run ops st o (fun s => ob (K s) k) = ob (guarded runX ops st o K) k := by
  unfold guarded
  split
  · exact hr _ _
  · rw [ob_ob]
    refine ob_congr fun d => ?_
    rw [ob_ob]
    refine ob_congr fun v => ?_
    split
    · rw [ob_cond, ob_cond, ob_cond]
      exact cond_congr (cond_congr (hr _ _) rfl) (cond_congr rfl (hr _ _))
    · rfl
    · rfl

theorem seqOps_nat {inl : Nat → AV → St → (AV → St → Option R) → Option R} {inlX : Nat → AV → St → (AV → St → Option X) → Option X} (hI : InlK inl inlX k) {ops : List Oper} {K : St → Option X} :
    ∀ {l : List Oper} {st : St}, seqOps L inl ops l st (fun s => ob (K s) k) = ob (seqOps L inlX ops l st K) k
  | [], st => rfl
  | o :: r, st => by
    rw [seqOps, seqOps]
    have : (fun st => seqOps L inl ops r st fun s => ob (K s) k) = fun st => ob (seqOps L inlX ops r st K) k := funext fun st => seqOps_nat hI
    rw [this]
    exact guarded_nat (fun st K => doOp_nat hI)

theorem splitG_nat {ops : List Oper} {o : Oper} {st : St} {K : St → Option X} : splitG ops o st (fun s => ob (K s) k) = ob (splitG ops o st K) k := by
  unfold splitG
  split
  · rfl
  · rw [ob_cond]
    refine cond_congr ?_ rfl
    split
    · rw [ob_cond]
    · rfl

theorem drawOps_nat {inl : Nat → AV → St → (AV → St → Option R) → Option R} {inlX : Nat → AV → St → (AV → St → Option X) → Option X} (hI : InlK inl inlX k) {ops : List Oper} {bs : List Nat} {s0 : St} {K : St → Option X} :
    ∀ {l : List Oper} {j : Nat} {nb : Nat} {ds : List Dlt}, drawOps L inl ops bs s0 j l nb ds (fun s => ob (K s) k) = ob (drawOps L inlX ops bs s0 j l nb ds K) k
  | [], j, nb, ds => by
    rw [drawOps, drawOps, ob_cond]
    rfl
  | o :: r, j, nb, ds => by
    rw [drawOps, drawOps]
    refine Eq.trans ?_ (guarded_nat (runX := fun st K => doOp L inlX st o K) (fun st K => doOp_nat hI))
    dsimp only
    congr 1
    funext st
    rw [← splitG_nat]
    congr 1
    funext st
    exact drawOps_nat hI

theorem elim_nat {M Z : Type} {F : Nat → M → Option X} {G : Z → Option X} : ∀ {l : List Nat} {b : Bool} {y : Out M Z l b}, Out.elim l b y (fun i m => ob (F i m) k) (fun z => ob (G z) k) = ob (Out.elim l b y F G) k
  | [], false, y => nomatch y
  | [], true, y => rfl
  | [i], false, y => rfl
  | [i], true, y => by cases y <;> rfl
  | i :: i' :: r, b, y => by
    cases y with
    | inl m => rfl
    | inr o => exact elim_nat (l := i' :: r) (y := o)

theorem callLoop_nat {j : Option Nat} {st : St} {K : Ex → St → Option X} {KR : AV → St → Option X} : ∀ {l : List Lent}, callLoop j st (fun e s => ob (K e s) k) (fun v s => ob (KR v s) k) l = ob (callLoop j st K KR l) k
  | [] => rfl
  | e :: es => by
    rw [callLoop, callLoop, ob_cond]
    refine cond_congr ?_ callLoop_nat
    split
    · rw [ob_cond]
      apply cond_congr
      · rw [ob_ob]
        refine ob_congr fun y => ?_
        rw [← elim_nat]
        congr 1
        funext i m
        rw [ob_ob]
      · rfl
    · exact callLoop_nat

theorem unroll_nat {body : (Ex → St → Option R) → (AV → St → Option R) → St → Option R} {bodyX : (Ex → St → Option X) → (AV → St → Option X) → St → Option X}
    (hb : ∀ K KR st, body (fun e s => ob (K e s) k) (fun v s => ob (KR v s) k) st = ob (bodyX K KR st) k) {K : Ex → St → Option X} {KR : AV → St → Option X} :
    ∀ {m : Nat} {st : St}, unroll body m (fun e s => ob (K e s) k) (fun v s => ob (KR v s) k) st = ob (unroll bodyX m K KR st) k
  | 0, st => rfl
  | m + 1, st => by
    rw [unroll, unroll, ← hb]
    congr 1
    funext e s
    cases e with
    | normal => exact unroll_nat hb
    | exit i => rfl
    | goto l => rfl

theorem ev_nat {inl : Nat → AV → St → (AV → St → Option R) → Option R} {inlX : Nat → AV → St → (AV → St → Option X) → Option X} (hI : InlK inl inlX k) {f : Nat} {res : List ResultVar} :
    ∀ {c : Code} {n : Nat} {K : Ex → St → Option X} {KR : AV → St → Option X} {st : St}, ev L inl f res c n (fun e s => ob (K e s) k) (fun v s => ob (KR v s) k) st = ob (ev L inlX f res c n K KR st) k
  | .skip, n, K, KR, st => rfl
  | .region id ops false, n, K, KR, st => seqOps_nat hI
  | .region id ops true, n, K, KR, st => drawOps_nat hI
  | .seq a b, n, K, KR, st => by
    rw [ev, ev, ← ev_nat hI (c := a)]
    congr 1
    funext e s
    cases e with
    | normal => exact ev_nat hI (c := b)
    | exit i => rfl
    | goto l => rfl
  | .cond c a b, n, K, KR, st => by
    rw [ev, ev, ob_ob]
    refine ob_congr fun v => ?_
    split
    · rw [ob_cond]
      exact cond_congr (ev_nat hI (c := a)) (ev_nat hI (c := b))
    · rfl
  | .block i c, n, K, KR, st => by
    rw [ev, ev, ← ev_nat hI (c := c)]
    congr 1
    funext e s
    cases e with
    | normal => rfl
    | exit j =>
      show cond (Nat.beq j i) (ob (K .normal s) k) (ob (K (.exit j) s) k) = ob (cond (Nat.beq j i) (K .normal s) (K (.exit j) s)) k
      rw [ob_cond]
    | goto l => rfl
  | .loop c, n, K, KR, st => by
    rw [ev, ev]
    split
    · exact unroll_nat (bodyX := fun K KR st => ev L inlX f res c n K KR st) (fun K KR st => ev_nat hI (c := c))
    · exact callLoop_nat
  | .exit i, n, K, KR, st => rfl
  | .ret, n, K, KR, st => by rw [ev, ev, ob_ob]
  | .goto l, n, K, KR, st => rfl
  | .label l, n, K, KR, st => rfl
  | .scope x, n, K, KR, st => by
    rw [ev, ev]
    split
    · rw [← ev_nat hI (c := x)]
      congr 1
      funext e s
      cases e with
      | normal => rfl
      | exit i => rfl
      | goto j =>
        show cond _ _ _ = ob (cond _ _ _) k
        rw [ob_cond]
        exact cond_congr callLoop_nat rfl
    · rfl
  | .refuse x, n, K, KR, st => by simp [ev, ob]
  | .rangeFunc x y z u, n, K, KR, st => by
    rw [ev, ev, ob_cond]
    refine cond_congr ?_ rfl
    split
    · rw [ob_ob]
      refine ob_congr fun p => ?_
      rw [ob_cond]
      rfl
    · rfl

theorem inPlace_nat : ∀ d, InlK (inPlace L d) (inPlace L d) k
  | 0 => fun g as st K => rfl
  | d + 1 => fun g as st K => by
    rw [inPlace, inPlace, ob_ob]
    refine ob_congr fun fn => ?_
    rw [ob_ob]
    refine ob_congr fun c => ?_
    rw [← ev_nat (inPlace_nat d)]
    congr 1
    funext e s
    cases e with
    | normal => rw [ob_ob]
    | exit i => rfl
    | goto l => rfl

end
end Go.Pv

/- Regions that draw their order: what an operation adds is the same whenever it runs. -/
set_option linter.unusedVariables false
set_option linter.unusedSimpArgs false
namespace Go.Pv

def AV.lim (m : Nat) : AV → Prop
  | .own k | .ptr k _ | .rptr k _ _ _ _ | .aptr k _ _ _ _ _ _ | .vptr k _ _ _ | .mp k => k < m
  | .fn _ c => c.lim m
  | .pr a b | .cons a b => a.lim m ∧ b.lim m
  | _ => True

def Blk.lim (m : Nat) : Blk → Prop
  | .box v => v.lim m
  | .vals _ _ vs => vs.lim m
  | _ => True

def restr (μ : Nat → Option At) (m : Nat) : Nat → Option At := fun k => if k < m then μ k else none

theorem restr_some {μ : Nat → Option At} {m k : Nat} {p : At} (h : restr μ m k = some p) : k < m ∧ μ k = some p := by
  unfold restr at h
  split at h
  · rename_i hk; exact ⟨hk, h⟩
  · cases h
theorem restr_lt {μ : Nat → Option At} {m k : Nat} {p : At} (hk : k < m) (h : μ k = some p) : restr μ m k = some p := by
  unfold restr; rw [if_pos hk]; exact h

section
variable {μ : Nat → Option At} {S : Nat → Prop} {w : World} {m : Nat}

theorem RX.below (hm : ∀ k p, μ k = some p → k < m) : ∀ {v : AV} {g : Bool} {cs : List Value}, RX μ S w g v cs → v.lim m := by
  intro v
  induction v with
  | own k => intro g cs h; cases g with | false => obtain ⟨p, hp, _⟩ := h; exact hm k p hp | true => exact h.elim
  | ptr k o => intro g cs h; cases g with | false => obtain ⟨p, hp, _⟩ := h; exact hm k p hp | true => exact h.elim
  | rptr k e t g p => intro g cs h; cases g with | false => obtain ⟨p, δ, hp, _⟩ := h; exact hm k p hp | true => exact h.elim
  | aptr k o n e t g p => intro g cs h; cases g with | false => obtain ⟨p, δ, hp, _⟩ := h; exact hm k p hp | true => exact h.elim
  | vptr k z i o => intro g cs h; cases g with | false => obtain ⟨p, hp, _⟩ := h; exact hm k p hp | true => exact h.elim
  | mp k => intro g cs h; cases g with | false => obtain ⟨p, hp, _⟩ := h; exact hm k p hp | true => exact h.elim
  | fn f c ih => intro g cs h; cases g with | false => obtain ⟨vs, _, h1⟩ := h; exact ih h1 | true => exact h.elim
  | pr a b iha ihb => intro g cs h; cases g with | false => obtain ⟨c, r, _, h1, h2⟩ := h; exact ⟨iha h1, ihb h2⟩ | true => exact h.elim
  | cons a b iha ihb =>
    intro g cs h
    cases g with
    | false => exact h.elim
    | true =>
      obtain ⟨d, r, _, h1, h2⟩ := h
      refine ⟨?_, ihb h2⟩
      cases hg : a.agg with
      | true => rw [hg] at h1; obtain ⟨cs, _, h3⟩ := h1; exact iha h3
      | false => rw [hg] at h1; exact iha h1
  | _ => intro g cs h; trivial

theorem RX.restr : ∀ {v : AV} {g : Bool} {cs : List Value}, v.lim m → RX μ S w g v cs → RX (restr μ m) S w g v cs := by
  intro v
  induction v with
  | own k => intro g cs hb h; cases g with | false => obtain ⟨p, hp, e⟩ := h; exact ⟨p, restr_lt hb hp, e⟩ | true => exact h.elim
  | ptr k o => intro g cs hb h; cases g with | false => obtain ⟨p, hp, e⟩ := h; exact ⟨p, restr_lt hb hp, e⟩ | true => exact h.elim
  | rptr k e t g p => intro g cs hb h; cases g with | false => obtain ⟨p, δ, hp, e⟩ := h; exact ⟨p, δ, restr_lt hb hp, e⟩ | true => exact h.elim
  | aptr k o n e t g p => intro g cs hb h; cases g with | false => obtain ⟨p, δ, hp, e⟩ := h; exact ⟨p, δ, restr_lt hb hp, e⟩ | true => exact h.elim
  | vptr k z i o => intro g cs hb h; cases g with | false => obtain ⟨p, hp, e⟩ := h; exact ⟨p, restr_lt hb hp, e⟩ | true => exact h.elim
  | mp k => intro g cs hb h; cases g with | false => obtain ⟨p, hp, e⟩ := h; exact ⟨p, restr_lt hb hp, e⟩ | true => exact h.elim
  | fn f c ih => intro g cs hb h; cases g with | false => obtain ⟨vs, e, h1⟩ := h; exact ⟨vs, e, ih hb h1⟩ | true => exact h.elim
  | pr a b iha ihb => intro g cs hb h; cases g with | false => obtain ⟨c, r, e, h1, h2⟩ := h; exact ⟨c, r, e, iha hb.1 h1, ihb hb.2 h2⟩ | true => exact h.elim
  | cons a b iha ihb =>
    intro g cs hb h
    cases g with
    | false => exact h.elim
    | true =>
      obtain ⟨d, r, e, h1, h2⟩ := h
      refine ⟨d, r, e, ?_, ihb hb.2 h2⟩
      cases hg : a.agg with
      | true => rw [hg] at h1; obtain ⟨cs, e3, h3⟩ := h1; exact ⟨cs, e3, iha hb.1 h3⟩
      | false => rw [hg] at h1; exact iha hb.1 h1
  | _ => intro g cs hb h; cases g <;> exact h

theorem RV.below (hm : ∀ k p, μ k = some p → k < m) {v : AV} {d : Value} (h : RV μ S w v d) : v.lim m := by
  by_cases hj : v = .junk
  · subst hj; trivial
  by_cases hc : ∃ x y, v = .cons x y
  · obtain ⟨x, y, rfl⟩ := hc
    rcases h with ⟨rfl, rfl, _⟩ | ⟨vs, _, h1⟩
    · exact ⟨trivial, trivial⟩
    · exact RX.below hm h1
  · have h := h.to hj (fun x y e => hc ⟨x, y, e⟩)
    cases hg : v.agg with
    | true => rw [hg] at h; obtain ⟨cs, _, h1⟩ := h; exact RX.below hm h1
    | false => rw [hg] at h; exact RX.below hm h

theorem RV.restr {v : AV} {d : Value} (hb : v.lim m) (h : RV μ S w v d) : RV (restr μ m) S w v d := by
  by_cases hj : v = .junk
  · subst hj; trivial
  by_cases hc : ∃ x y, v = .cons x y
  · obtain ⟨x, y, rfl⟩ := hc
    rcases h with h | ⟨vs, e, h1⟩
    · exact .inl h
    · exact .inr ⟨vs, e, RX.restr hb h1⟩
  · have h := h.to hj (fun x y e => hc ⟨x, y, e⟩)
    refine RV.of ?_
    cases hg : v.agg with
    | true => rw [hg] at h; obtain ⟨cs, e, h1⟩ := h; exact ⟨cs, e, RX.restr hb h1⟩
    | false => rw [hg] at h; exact RX.restr hb h

theorem RVals.below {sz : Nat} (hm : ∀ k p, μ k = some p → k < m) : ∀ {v : AV} {cs : List Value}, RVals μ S w sz v cs → v.lim m := by
  intro v
  induction v with
  | cons a b iha ihb => intro cs h; obtain ⟨c, r, _, _, h1, h2⟩ := h; exact ⟨RX.below hm h1, ihb h2⟩
  | un => intro cs h; trivial
  | _ => intro cs h; exact h.elim

theorem RVals.restr {sz : Nat} : ∀ {v : AV} {cs : List Value}, v.lim m → RVals μ S w sz v cs → RVals (restr μ m) S w sz v cs := by
  intro v
  induction v with
  | cons a b iha ihb => intro cs hb h; obtain ⟨c, r, e, l, h1, h2⟩ := h; exact ⟨c, r, e, l, RX.restr hb.1 h1, ihb hb.2 h2⟩
  | un => intro cs hb h; exact h
  | _ => intro cs hb h; exact h.elim

theorem RB.below (hm : ∀ k p, μ k = some p → k < m) {k : Nat} {x : Blk} (h : RB μ S w k x) : x.lim m ∧ (x ≠ .dead → k < m) := by
  cases x with
  | box v => obtain ⟨p, hp, _, cs, ty, _, h1⟩ := h; exact ⟨RX.below hm h1, fun _ => hm k p hp⟩
  | row e xs => obtain ⟨p, hp, _⟩ := h; exact ⟨trivial, fun _ => hm k p hp⟩
  | vals n sz vs => obtain ⟨p, hp, _, _, _, _, cs, ty, _, h1⟩ := h; exact ⟨RVals.below hm h1, fun _ => hm k p hp⟩
  | map kt vt es => obtain ⟨p, hp, _⟩ := h; exact ⟨trivial, fun _ => hm k p hp⟩
  | dead => exact ⟨trivial, fun h => absurd rfl h⟩

theorem RB.restr {k : Nat} {x : Blk} (hb : x.lim m) (hk : x ≠ .dead → k < m) (h : RB μ S w k x) : RB (restr μ m) S w k x := by
  cases x with
  | box v => obtain ⟨p, hp, hn, cs, ty, h0, h1⟩ := h; exact ⟨p, restr_lt (hk (by simp)) hp, hn, cs, ty, h0, RX.restr hb h1⟩
  | row e xs => obtain ⟨p, hp, h⟩ := h; exact ⟨p, restr_lt (hk (by simp)) hp, h⟩
  | vals n sz vs => obtain ⟨p, hp, h2, h3, h4, h5, cs, ty, h0, h1⟩ := h; exact ⟨p, restr_lt (hk (by simp)) hp, h2, h3, h4, h5, cs, ty, h0, RVals.restr hb h1⟩
  | map kt vt es => obtain ⟨p, hp, h⟩ := h; exact ⟨p, restr_lt (hk (by simp)) hp, h⟩
  | dead => trivial

theorem AV.lim_mono {m' : Nat} (hm : m ≤ m') : ∀ {v : AV}, v.lim m → v.lim m' := by
  intro v
  induction v with
  | fn f c ih => exact ih
  | pr a b iha ihb => exact fun h => ⟨iha h.1, ihb h.2⟩
  | cons a b iha ihb => exact fun h => ⟨iha h.1, ihb h.2⟩
  | own k => exact fun h => Nat.lt_of_lt_of_le h hm
  | ptr k o => exact fun h => Nat.lt_of_lt_of_le h hm
  | rptr k e t g p => exact fun h => Nat.lt_of_lt_of_le h hm
  | aptr k o n e t g p => exact fun h => Nat.lt_of_lt_of_le h hm
  | vptr k z i o => exact fun h => Nat.lt_of_lt_of_le h hm
  | mp k => exact fun h => Nat.lt_of_lt_of_le h hm
  | _ => exact fun _ => trivial

theorem Blk.lim_mono {m' : Nat} (hm : m ≤ m') {x : Blk} (h : x.lim m) : x.lim m' := by
  cases x with
  | box v => exact AV.lim_mono hm h
  | vals n sz vs => exact AV.lim_mono hm h
  | _ => trivial

end

theorem stake_app {α : Type} : ∀ (ε l : List α), stake (Nat.sub (slen (ε ++ l)) (slen l)) (ε ++ l) = ε := by
  intro ε l
  have e : Nat.sub (slen (ε ++ l)) (slen l) = ε.length := by
    rw [slen_eq, slen_eq, List.length_append]
    show ε.length + l.length - l.length = _
    omega
  rw [e]
  clear e
  induction ε with
  | nil => cases l <;> rfl
  | cons x r ih => rw [List.length_cons, List.cons_append, stake, ih]

/-- The keys of a list. -/
def Key {α : Type} (l : List (Nat × α)) (k : Nat) : Prop := ∃ p ∈ l, p.1 = k

theorem lk_key {α : Type} {l : List (Nat × α)} {k : Nat} {x : α} (h : lk l k = some x) : Key l k := by
  induction l with
  | nil => cases h
  | cons p r ih =>
    rw [lk_cons] at h
    by_cases hp : p.1 = k
    · exact ⟨p, by simp, hp⟩
    · rw [if_neg hp] at h
      obtain ⟨q, hq, e⟩ := ih h
      exact ⟨q, by simp [hq], e⟩

theorem key_lk {α : Type} {l : List (Nat × α)} {k : Nat} (h : Key l k) : ∃ x, lk l k = some x := by
  induction l with
  | nil => obtain ⟨p, hp, _⟩ := h; simp at hp
  | cons p r ih =>
    rw [lk_cons]
    by_cases hp : p.1 = k
    · rw [if_pos hp]; exact ⟨_, rfl⟩
    · rw [if_neg hp]
      obtain ⟨q, hq, e⟩ := h
      rcases List.mem_cons.1 hq with rfl | hq
      · exact absurd e hp
      · exact ih ⟨q, hq, e⟩

theorem has_keys {α : Type} {l : List (Nat × α)} {k : Nat} : has (keysOf l) k = true ↔ Key l k := by
  rw [has_iff]
  unfold keysOf
  induction l with
  | nil => simp [smap, Key]
  | cons p r ih =>
    rw [smap, List.mem_cons, ih]
    constructor
    · rintro (h | ⟨q, hq, e⟩)
      · exact ⟨p, by simp, h.symm⟩
      · exact ⟨q, by simp [hq], e⟩
    · rintro ⟨q, hq, e⟩
      rcases List.mem_cons.1 hq with rfl | hq
      · exact .inl e.symm
      · exact .inr ⟨q, hq, e⟩

theorem lk_app {α : Type} {a b : List (Nat × α)} {k : Nat} : (Key a k → lk (a ++ b) k = lk a k) ∧ (¬ Key a k → lk (a ++ b) k = lk b k) := by
  induction a with
  | nil => exact ⟨fun ⟨p, hp, _⟩ => by simp at hp, fun _ => rfl⟩
  | cons p r ih =>
    rw [List.cons_append, lk_cons, lk_cons]
    by_cases hp : p.1 = k
    · simp only [hp, if_true]
      exact ⟨fun _ => trivial, fun h => absurd ⟨p, by simp, hp⟩ h⟩
    · rw [if_neg hp, if_neg hp]
      refine ⟨fun h => ih.1 ?_, fun h => ih.2 fun ⟨q, hq, e⟩ => h ⟨q, by simp [hq], e⟩⟩
      obtain ⟨q, hq, e⟩ := h
      rcases List.mem_cons.1 hq with rfl | hq
      · exact absurd e hp
      · exact ⟨q, hq, e⟩

section
variable {α : Type} (f : Dlt → List (Nat × α)) (δ : Nat → Dlt)

def J (sel : Nat → Bool) : Nat → List (Nat × α)
  | 0 => []
  | j + 1 => cond (sel j) (f (δ j)) [] ++ J sel j

variable {f δ}

/-- The latest that says something of k. -/
theorem J_lk {sel : Nat → Bool} {base : List (Nat × α)} {k : Nat} {x : α} : ∀ {n : Nat}, lk (J f δ sel n ++ base) k = some x →
    (∃ i, i < n ∧ sel i = true ∧ lk (f (δ i)) k = some x ∧ ∀ i', i < i' → i' < n → sel i' = true → ¬ Key (f (δ i')) k) ∨ ((∀ i, i < n → sel i = true → ¬ Key (f (δ i)) k) ∧ lk base k = some x)
  | 0, h => .inr ⟨fun i hi => by omega, h⟩
  | n + 1, h => by
    rw [J, List.append_assoc] at h
    by_cases hs : sel n = true ∧ Key (f (δ n)) k
    · rw [hs.1] at h
      have h : lk (f (δ n) ++ (J f δ sel n ++ base)) k = some x := h
      rw [lk_app.1 hs.2] at h
      exact .inl ⟨n, Nat.lt_succ_self n, hs.1, h, fun i' h1 h2 => by omega⟩
    · have h' : lk (J f δ sel n ++ base) k = some x := by
        cases hn : sel n with
        | false => rw [hn] at h; exact h
        | true =>
          rw [hn] at h
          have h : lk (f (δ n) ++ (J f δ sel n ++ base)) k = some x := h
          rw [lk_app.2 (fun hk => hs ⟨hn, hk⟩)] at h
          exact h
      rcases J_lk h' with ⟨i, h1, h2, h3, h4⟩ | ⟨h1, h2⟩
      · refine .inl ⟨i, by omega, h2, h3, fun i' g1 g2 g3 hk => ?_⟩
        by_cases hin : i' = n
        · subst hin; exact hs ⟨g3, hk⟩
        · exact h4 i' g1 (by omega) g3 hk
      · refine .inr ⟨fun i g1 g2 hk => ?_, h2⟩
        by_cases hin : i = n
        · subst hin; exact hs ⟨g2, hk⟩
        · exact h1 i (by omega) g2 hk

theorem J_top {sel : Nat → Bool} {base : List (Nat × α)} {k : Nat} {i : Nat} : ∀ {n : Nat}, i < n → sel i = true → Key (f (δ i)) k → (∀ i', i < i' → i' < n → sel i' = true → ¬ Key (f (δ i')) k) → lk (J f δ sel n ++ base) k = lk (f (δ i)) k
  | 0, h, _, _, _ => by omega
  | n + 1, h, hs, hk, ht => by
    rw [J, List.append_assoc]
    by_cases hin : i = n
    · subst hin
      rw [hs]
      exact lk_app.1 hk
    · have ih := J_top (base := base) (n := n) (by omega) hs hk (fun i' h1 h2 => ht i' h1 (by omega))
      cases hn : sel n with
      | false => exact ih
      | true =>
        show lk (f (δ n) ++ _) k = _
        rw [lk_app.2 (ht n (by omega) (Nat.lt_succ_self n) hn)]
        exact ih

theorem J_none {sel : Nat → Bool} {base : List (Nat × α)} {k : Nat} : ∀ {n : Nat}, (∀ i, i < n → sel i = true → ¬ Key (f (δ i)) k) → lk (J f δ sel n ++ base) k = lk base k
  | 0, _ => rfl
  | n + 1, h => by
    rw [J, List.append_assoc]
    have ih := J_none (base := base) (n := n) (fun i hi => h i (by omega))
    cases hn : sel n with
    | false => exact ih
    | true =>
      show lk (f (δ n) ++ _) k = _
      rw [lk_app.2 (h n (Nat.lt_succ_self n) hn)]
      exact ih
end

end Go.Pv

/- Regions that draw their order: the trace of the reading, the invariant. -/
set_option linter.unusedVariables false
set_option linter.unusedSimpArgs false
namespace Go.Pv

def dsOf (δ : Nat → Dlt) : Nat → List Dlt
  | 0 => []
  | j + 1 => δ j :: dsOf δ j

def nuOf (nb : Nat) (δ : Nat → Dlt) : Nat → Nat
  | 0 => nb
  | i + 1 => (δ i).nb

/-- The state that operation j is read in. -/
def frOf (l : List Oper) (bs : List Nat) (s0 : St) (δ : Nat → Dlt) (j : Nat) : List (Nat × AV) := sapp (smap (fun t => (t, AV.junk)) (loose bs l j)) (J Dlt.fr δ (sbit (snum bs j)) j ++ s0.fr)
def seeOf (l : List Oper) (bs : List Nat) (s0 : St) (δ : Nat → Dlt) (j : Nat) : Option (List Nat) := match l[j]? with | some o => seesO (frOf l bs s0 δ j) o | none => none
def srOf (l : List Oper) (bs : List Nat) (s0 : St) (δ : Nat → Dlt) (j : Nat) : St :=
  ⟨frOf l bs s0 δ j, seen (seeOf l bs s0 δ j) (J Dlt.bl δ (sbit (snum bs j)) j ++ s0.bl), nuOf s0.nb δ j⟩

theorem joinFr_eq (δ : Nat → Dlt) (m : Nat) : ∀ j, joinFr m j (dsOf δ j) = J Dlt.fr δ (sbit m) j
  | 0 => rfl
  | j + 1 => by
    rw [dsOf, joinFr, J]
    have e : Nat.sub (j + 1) 1 = j := rfl
    rw [e, joinFr_eq δ m j]
    cases sbit m j with
    | true => exact sapp_eq _ _
    | false => rfl

theorem joinBl_eq (δ : Nat → Dlt) (m : Nat) : ∀ j, joinBl m j (dsOf δ j) = J Dlt.bl δ (sbit m) j
  | 0 => rfl
  | j + 1 => by
    rw [dsOf, joinBl, J]
    have e : Nat.sub (j + 1) 1 = j := rfl
    rw [e, joinBl_eq δ m j]
    cases sbit m j with
    | true => exact sapp_eq _ _
    | false => rfl

theorem sflat_eq {α : Type} (f : Dlt → List (Nat × α)) (δ : Nat → Dlt) : ∀ n, sflat (smap f (dsOf δ n)) = J f δ (fun _ => true) n
  | 0 => rfl
  | n + 1 => by rw [dsOf, smap, sflat, J, sapp_eq, sflat_eq f δ n]; rfl

theorem J_agree {α : Type} {f : Dlt → List (Nat × α)} {δ δ' : Nat → Dlt} {sel : Nat → Bool} : ∀ {n : Nat}, (∀ i, i < n → δ i = δ' i) → J f δ sel n = J f δ' sel n
  | 0, _ => rfl
  | n + 1, h => by rw [J, J, h n (Nat.lt_succ_self n), J_agree (fun i hi => h i (by omega))]

theorem dsOf_agree {δ δ' : Nat → Dlt} : ∀ {n : Nat}, (∀ i, i < n → δ i = δ' i) → dsOf δ n = dsOf δ' n
  | 0, _ => rfl
  | n + 1, h => by rw [dsOf, dsOf, h n (Nat.lt_succ_self n), dsOf_agree (fun i hi => h i (by omega))]

theorem nuOf_agree {nb : Nat} {δ δ' : Nat → Dlt} {n : Nat} (h : ∀ i, i < n → δ i = δ' i) : nuOf nb δ n = nuOf nb δ' n := by
  cases n with
  | zero => rfl
  | succ n => rw [nuOf, nuOf, h n (Nat.lt_succ_self n)]

theorem srOf_agree {l : List Oper} {bs : List Nat} {s0 : St} {δ δ' : Nat → Dlt} {j : Nat} (h : ∀ i, i < j → δ i = δ' i) : srOf l bs s0 δ j = srOf l bs s0 δ' j := by
  have e : frOf l bs s0 δ j = frOf l bs s0 δ' j := by unfold frOf; rw [J_agree h]
  unfold srOf seeOf
  rw [e, J_agree h, nuOf_agree h]

/-- Operation i is read so. -/
def Tr (run : St → Oper → (St → Option St) → Option St) (l : List Oper) (bs : List Nat) (s0 : St) (δ : Nat → Dlt) (i : Nat) : Prop :=
  ∃ o st, l[i]? = some o ∧ run (srOf l bs s0 δ i) o some = some st ∧ δ i = ⟨stake (Nat.sub (slen st.fr) (slen (srOf l bs s0 δ i).fr)) st.fr, stake (Nat.sub (slen st.bl) (slen (srOf l bs s0 δ i).bl)) st.bl, st.nb, seeOf l bs s0 δ i⟩

theorem trace {R : Type} {L : Lib} {inl : Nat → AV → St → (AV → St → Option R) → Option R} {inlX : Nat → AV → St → (AV → St → Option St) → Option St} (hI : ∀ k : St → Option R, InlK inl inlX k) {l : List Oper} {bs : List Nat} {s0 : St} {K : St → Option R} {r : R} :
    ∀ {q : List Oper} {j nb : Nat} {ds : List Dlt} {δ0 : Nat → Dlt}, j ≤ l.length → q = l.drop j → ds = dsOf δ0 j → nb = nuOf s0.nb δ0 j → drawOps L inl l bs s0 j q nb ds K = some r →
      ∃ δ, (∀ i, i < j → δ i = δ0 i) ∧ (∀ i, j ≤ i → i < l.length → Tr (fun st o K => guarded (fun st K => doOp L inlX st o K) l st o fun st => splitG l o st K) l bs s0 δ i) ∧
        drawOk bs l s0.nb (srev (dsOf δ l.length) []) = true ∧ K ⟨J Dlt.fr δ (fun _ => true) l.length ++ s0.fr, J Dlt.bl δ (fun _ => true) l.length ++ s0.bl, nuOf s0.nb δ l.length⟩ = some r
  | [], j, nb, ds, δ0, hjl, hq, hds, hnb, h => by
    rw [drawOps] at h
    have hj : l.length ≤ j := by
      have := congrArg List.length hq
      simp at this; omega
    rcases Nat.lt_or_ge l.length j with hlt | hge
    · omega
    · have hj : j = l.length := by omega
      subst hj
      subst hds hnb
      obtain ⟨h1, h2⟩ := condT h
      refine ⟨δ0, fun _ _ => rfl, fun i h1 h2 => by omega, h1, ?_⟩
      rw [sapp_eq, sapp_eq, sflat_eq, sflat_eq] at h2
      exact h2
  | o :: q, j, nb, ds, δ0, hjl, hq, hds, hnb, h => by
    rw [drawOps] at h
    have ho : l[j]? = some o := by
      rw [← Nat.add_zero j, ← List.getElem?_drop, ← hq]; rfl
    have hlt : j < l.length := (List.getElem?_eq_some_iff.1 ho).1
    have hfr : sapp (smap (fun t => (t, AV.junk)) (loose bs l j)) (sapp (joinFr (snum bs j) j ds) s0.fr) = frOf l bs s0 δ0 j := by
      unfold frOf
      rw [hds, joinFr_eq, sapp_eq (J _ _ _ _)]
    have hsee : seesO (frOf l bs s0 δ0 j) o = seeOf l bs s0 δ0 j := by unfold seeOf; rw [ho]
    have hbl : sapp (joinBl (snum bs j) j ds) s0.bl = J Dlt.bl δ0 (sbit (snum bs j)) j ++ s0.bl := by
      rw [hds, joinBl_eq, sapp_eq (J _ _ _ _)]
    rw [hfr] at h
    dsimp only at h
    rw [hsee, hbl, hnb] at h
    have h : (guarded (fun st K => doOp L inl st o K) l (srOf l bs s0 δ0 j) o fun st => splitG l o st fun st =>
      drawOps L inl l bs s0 (Nat.add j 1) q st.nb (⟨stake (Nat.sub (slen st.fr) (slen (srOf l bs s0 δ0 j).fr)) st.fr, stake (Nat.sub (slen st.bl) (slen (srOf l bs s0 δ0 j).bl)) st.bl, st.nb, seeOf l bs s0 δ0 j⟩ :: ds) K) = some r := h
    have hn := guarded_nat (ops := l) (st := srOf l bs s0 δ0 j) (o := o) (K := fun st => splitG l o st some)
      (k := fun st => drawOps L inl l bs s0 (Nat.add j 1) q st.nb (⟨stake (Nat.sub (slen st.fr) (slen (srOf l bs s0 δ0 j).fr)) st.fr, stake (Nat.sub (slen st.bl) (slen (srOf l bs s0 δ0 j).bl)) st.bl, st.nb, seeOf l bs s0 δ0 j⟩ :: ds) K)
      (run := fun st K => doOp L inl st o K) (runX := fun st K => doOp L inlX st o K) (fun st K => doOp_nat (hI _))
    have hk : ∀ (k : St → Option R) st, splitG l o st k = ob (splitG l o st some) k := fun k st => splitG_nat (K := some) (k := k)
    have h := (congrArg (fun K => guarded (fun st K => doOp L inl st o K) l (srOf l bs s0 δ0 j) o K) (funext fun st => hk _ st)).symm.trans h
    have h2 := hn.symm.trans h
    obtain ⟨st, hst, h3⟩ := ob_some h2
    let d : Dlt := ⟨stake (Nat.sub (slen st.fr) (slen (srOf l bs s0 δ0 j).fr)) st.fr, stake (Nat.sub (slen st.bl) (slen (srOf l bs s0 δ0 j).bl)) st.bl, st.nb, seeOf l bs s0 δ0 j⟩
    let δ1 : Nat → Dlt := fun i => if i = j then d else δ0 i
    have hag : ∀ i, i < j → δ1 i = δ0 i := fun i hi => if_neg (by omega)
    have hds1 : d :: ds = dsOf δ1 (j + 1) := by
      rw [dsOf, dsOf_agree hag, ← hds]
      show _ = (if j = j then d else δ0 j) :: ds
      rw [if_pos rfl]
    have hnb1 : st.nb = nuOf s0.nb δ1 (j + 1) := by
      rw [nuOf]
      show _ = (if j = j then d else δ0 j).nb
      rw [if_pos rfl]
    obtain ⟨δ, g1, g2, g3, g4⟩ := trace hI (q := q) (j := j + 1) (δ0 := δ1) hlt (by rw [← List.drop_drop, ← hq]; rfl) hds1 hnb1 h3
    refine ⟨δ, fun i hi => (g1 i (by omega)).trans (hag i hi), fun i hi hil => ?_, g3, g4⟩
    by_cases hij : i = j
    · subst hij
      have hsr2 : srOf l bs s0 δ i = srOf l bs s0 δ0 i := srOf_agree fun i' hi' => (g1 i' (by omega)).trans (hag i' hi')
      refine ⟨o, st, ho, by rw [hsr2]; exact hst, ?_⟩
      have hsee2 : seeOf l bs s0 δ i = seeOf l bs s0 δ0 i := by
        unfold seeOf frOf
        rw [J_agree fun i' hi' => (g1 i' (by omega)).trans (hag i' hi')]
      rw [hsr2, hsee2, g1 i (Nat.lt_succ_self i)]
      exact if_pos rfl
    · exact g2 i (by omega) hil

theorem mem_srange : ∀ {n i x : Nat}, x ∈ srange i n ↔ i ≤ x ∧ x < i + n
  | 0, i, x => by simp [srange]
  | n + 1, i, x => by
    rw [srange, List.mem_cons, mem_srange (n := n) (i := Nat.add i 1)]
    show x = i ∨ (i + 1 ≤ x ∧ x < i + 1 + n) ↔ _
    omega

theorem sany_iff {α : Type} {p : α → Bool} : ∀ {l : List α}, sany p l = true ↔ ∃ x ∈ l, p x = true
  | [] => by simp [sany]
  | x :: l => by
    rw [sany]
    cases hp : p x with
    | true => simp [hp]
    | false => simp [hp, sany_iff (l := l)]

theorem srev_eq {α : Type} : ∀ (l m : List α), srev l m = l.reverse ++ m
  | [], m => rfl
  | x :: l, m => by rw [srev, srev_eq l]; simp

theorem dltAt_eq (δ : Nat → Dlt) : ∀ {n i : Nat}, i < n → dltAt (srev (dsOf δ n) []) i = δ i := by
  intro n i hi
  have h : ∀ n, (dsOf δ n).reverse = (List.range n).map δ := by
    intro n
    induction n with
    | zero => rfl
    | succ n ih => rw [dsOf, List.reverse_cons, ih, List.range_succ, List.map_append]; rfl
  unfold dltAt
  rw [srev_eq, List.append_nil, h, snth_eq, List.getElem?_map, List.getElem?_range hi]
  rfl

theorem nuAt_eq (nb : Nat) (δ : Nat → Dlt) {n i : Nat} (hi : i ≤ n) : nuAt nb (srev (dsOf δ n) []) i = nuOf nb δ i := by
  cases i with
  | zero => rfl
  | succ i => rw [nuAt, nuOf, dltAt_eq δ hi]

/-- What the check says. -/
structure DrawP (l : List Oper) (bs : List Nat) (nb : Nat) (δ : Nat → Dlt) : Prop where
  bit_lt : ∀ i p, i < l.length → p < l.length → sbit (snum bs i) p = true → p < i
  bit_by : ∀ i p, i < l.length → p < l.length → sbit (snum bs i) p = true → ∃ e ∈ afterOf l i, binding e = true ∧ (e.on = p ∨ sbit (snum bs e.on) p = true)
  edge : ∀ i e, i < l.length → e ∈ afterOf l i → binding e = true → e.on < i ∧ sbit (snum bs i) e.on = true
  mono : ∀ i, i < l.length → nuOf nb δ i ≤ nuOf nb δ (i + 1)
  own : ∀ i d, i < l.length → dstOf l i = some d → Key (δ i).fr d
  apartK : ∀ i j k, i < l.length → j < l.length → unord bs i j = true → Key (δ i).bl k → ¬ Key (δ j).bl k ∧ (unseen (δ j).see k = true ∨ (nb ≤ k ∧ ∀ p, p < l.length → sbit (snum bs j) p = true → ¬ Key (δ p).bl k))
  apartF : ∀ i j d, i < l.length → j < l.length → unord bs i j = true → dstOf l i = some d → ¬ Key (δ j).fr d

theorem mem_unordL {bs : List Nat} {ops : List Oper} {i j : Nat} (hj : j < ops.length) (hu : unord bs i j = true) : j ∈ unordL bs ops i := by
  unfold unordL
  have : ∀ l : List Nat, j ∈ l → j ∈ skeep (fun j => cond (unord bs i j) (some j) none) l := by
    intro l
    induction l with
    | nil => intro h; cases h
    | cons x l ih =>
      intro h
      rw [skeep]
      rcases List.mem_cons.1 h with rfl | h
      · rw [hu]; exact List.mem_cons_self
      · split
        · exact List.mem_cons_of_mem _ (ih h)
        · exact ih h
  exact this _ (mem_srange.2 ⟨Nat.zero_le _, by rw [slen_eq]; omega⟩)

theorem drawP_of {l : List Oper} {bs : List Nat} {nb : Nat} {δ : Nat → Dlt} (h : drawOk bs l nb (srev (dsOf δ l.length) []) = true) : DrawP l bs nb δ := by
  unfold drawOk at h
  obtain ⟨hb, h, _⟩ := and3_true h
  unfold drawBs at hb
  rw [slen_eq] at h hb
  have hb1 := fun i (hi : i < l.length) => and3_true (sall_iff.1 hb i (mem_srange.2 ⟨Nat.zero_le _, by omega⟩))
  have h1 := fun i (hi : i < l.length) => and3_true (sall_iff.1 h i (mem_srange.2 ⟨Nat.zero_le _, by omega⟩))
  have keyOf : ∀ {i k}, i < l.length → Key (δ i).bl k → k ∈ keysOf (dltAt (srev (dsOf δ l.length) []) i).bl := fun hi hk => by
    rw [dltAt_eq δ hi]; exact has_iff.1 (has_keys.2 hk)
  refine ⟨?_, ?_, ?_, ?_, ?_, ?_, ?_⟩
  · intro i p hi hp hb
    have := sall_iff.1 (hb1 i hi).1 p (mem_srange.2 ⟨Nat.zero_le _, by omega⟩)
    rw [hb] at this
    exact blt_true (and3_true this).1
  · intro i p hi hp hb
    have := sall_iff.1 (hb1 i hi).1 p (mem_srange.2 ⟨Nat.zero_le _, by omega⟩)
    rw [hb] at this
    obtain ⟨e, he, h2⟩ := sany_iff.1 (and3_true this).2.1
    obtain ⟨h3, h4, _⟩ := and3_true h2
    refine ⟨e, he, h3, ?_⟩
    cases h5 : Nat.beq e.on p with
    | true => exact .inl (beq_true h5)
    | false => rw [h5] at h4; exact .inr h4
  · intro i e hi he hb
    have := sall_iff.1 (hb1 i hi).2.1 e he
    rw [hb] at this
    obtain ⟨h3, h4, _⟩ := and3_true this
    exact ⟨blt_true h3, h4⟩
  · intro i hi
    have := (h1 i hi).1
    rw [nuAt_eq nb δ (Nat.le_of_lt hi)] at this
    have e : nuAt nb (srev (dsOf δ l.length) []) (Nat.add i 1) = nuOf nb δ (i + 1) := nuAt_eq nb δ hi
    rw [e] at this
    exact Nat.le_of_ble_eq_true this
  · intro i d hi hd
    have := (h1 i hi).2.1
    rw [hd, dltAt_eq δ hi] at this
    exact has_keys.1 this
  · intro i j k hi hj hu hk
    have := sall_iff.1 (h1 i hi).2.2 j (mem_unordL hj hu)
    have := sall_iff.1 (and3_true this).1 k (keyOf hi hk)
    rw [dltAt_eq δ hj] at this
    cases hh : has (keysOf (δ j).bl) k with
    | true => rw [hh] at this; cases this
    | false =>
      rw [hh] at this
      have hnk : ¬ Key (δ j).bl k := fun hkj => by
        rw [has_keys.2 hkj] at hh
        cases hh
      refine ⟨hnk, ?_⟩
      cases hu2 : unseen (δ j).see k with
      | true => exact .inl rfl
      | false =>
        rw [hu2] at this
        obtain ⟨h3, h4, _⟩ := and3_true (show and3 (Nat.ble nb k) _ true = true from this)
        refine .inr ⟨Nat.le_of_ble_eq_true h3, fun p hp hb hkp => ?_⟩
        have := sall_iff.1 h4 p (mem_srange.2 ⟨Nat.zero_le _, by omega⟩)
        rw [hb, dltAt_eq δ hp, has_keys.2 hkp] at this
        cases this
  · intro i j d hi hj hu hd hk
    have := sall_iff.1 (h1 i hi).2.2 j (mem_unordL hj hu)
    have := (and3_true this).2.1
    rw [hd, dltAt_eq δ hj] at this
    dsimp only at this
    rw [has_keys.2 hk] at this
    cases this

end Go.Pv

/- Regions that draw their order: one operation more. -/
set_option linter.unusedVariables false
set_option linter.unusedSimpArgs false
namespace Go.Pv

/-- What holds when the operations of E have run. -/
structure Inv (B : Base) (D : Nat → Bool) (l : List Oper) (bs : List Nat) (s0 : St) (δ : Nat → Dlt) (E : Nat → Bool) (μ : Nat → Option At) (S : Nat → Prop) (w : World) (a : Act) : Prop where
  down : ∀ i, i < l.length → E i = true → ∀ p, p < l.length → sbit (snum bs i) p = true → E p = true
  blk : ∀ k x, lk (J Dlt.bl δ E l.length ++ s0.bl) k = some x → RB μ S w k x
  old : ∀ b, Liv μ (J Dlt.bl δ E l.length ++ s0.bl) b → b < w.heap.size ∧ ¬ S b
  inj : ∀ k k' x x' p p', lk (J Dlt.bl δ E l.length ++ s0.bl) k = some x → lk (J Dlt.bl δ E l.length ++ s0.bl) k' = some x' → x ≠ .dead → x' ≠ .dead → μ k = some p → μ k' = some p' → p.nl = false → p'.nl = false → p.b = p'.b → k = k'
  sb : ∀ b, S b → b < w.heap.size
  gl : Gl S w
  evo : Evo (Liv B.μ B.bl) B.S B.w B.μ (Liv μ (J Dlt.bl δ E l.length ++ s0.bl)) S w μ
  low : ∀ k, k < B.nb → μ k = B.μ k
  U : ∀ k p, μ k = some p → k < s0.nb ∨ ∃ i, i < l.length ∧ E i = true ∧ nuOf s0.nb δ i ≤ k ∧ k < nuOf s0.nb δ (i + 1)
  M : ∀ i, i < l.length → E i = true → ∀ k x, lk (δ i).bl k = some x → x.lim (nuOf s0.nb δ (i + 1)) ∧ (x ≠ .dead → k < nuOf s0.nb δ (i + 1))
  M0 : ∀ k x, lk s0.bl k = some x → x.lim s0.nb ∧ (x ≠ .dead → k < s0.nb)
  FM : ∀ i, i < l.length → E i = true → ∀ t v, lk (δ i).fr t = some v → v.lim (nuOf s0.nb δ (i + 1))
  FM0 : ∀ t v, lk s0.fr t = some v → v.lim s0.nb
  FI : ∀ i, i < l.length → E i = true → ∀ t v, lk (δ i).fr t = some v → (∀ i', i' < l.length → E i' = true → i' ≠ i → dstOf l i' = some t → sbit (snum bs i) i' = true) → RV μ S w v (a.tmps.getD t undef)
  F0 : ∀ t v, lk s0.fr t = some v → (∀ i', i' < l.length → E i' = true → dstOf l i' ≠ some t) → RV μ S w v (a.tmps.getD t undef)
  mks : Mk B.T B.w.heap.size B.a.defers S w a.defers
  asize : a.tmps.size = B.a.tmps.size
  keep : ∀ t, D t = false → a.tmps.getD t undef = B.a.tmps.getD t undef

section
variable {B : Base} {D : Nat → Bool} {l : List Oper} {bs : List Nat} {s0 : St} {δ : Nat → Dlt} {E : Nat → Bool} {μ : Nat → Option At} {S : Nat → Prop} {w : World} {a : Act}

theorem nu_mono (hP : DrawP l bs s0.nb δ) : ∀ {i j : Nat}, i ≤ j → j ≤ l.length → nuOf s0.nb δ i ≤ nuOf s0.nb δ j := by
  intro i j hij hj
  induction j with
  | zero => have : i = 0 := by omega
            subst this; exact Nat.le_refl _
  | succ j ih =>
    rcases Nat.lt_or_ge i (j + 1) with h | h
    · exact Nat.le_trans (ih (by omega) (by omega)) (hP.mono j (by omega))
    · have : i = j + 1 := by omega
      subst this; exact Nat.le_refl _

theorem unord_of {i j : Nat} (h1 : i ≠ j) (h2 : sbit (snum bs i) j = false) (h3 : sbit (snum bs j) i = false) : unord bs i j = true := by
  unfold unord
  have : Nat.beq i j = false := by
    cases hb : Nat.beq i j with
    | false => rfl
    | true => exact absurd (beq_true hb) h1
  rw [this, h2, h3]; rfl

/-- An operation of E is before j, or not ordered with it. -/
theorem Inv.un (hi : Inv B D l bs s0 δ E μ S w a) {j : Nat} (hj : j < l.length) (hjE : E j = false) {i : Nat} (hil : i < l.length) (hiE : E i = true) (hb : sbit (snum bs j) i = false) : unord bs i j = true := by
  refine unord_of (fun e => by rw [e, hjE] at hiE; cases hiE) ?_ hb
  cases h : sbit (snum bs i) j with
  | false => rfl
  | true => have := hi.down i hil hiE j hj h; rw [hjE] at this; cases this

theorem lk_only {ks : List Nat} {k : Nat} {x : Blk} : ∀ {bl : List (Nat × Blk)}, lk (only ks bl) k = some x → has ks k = true ∧ lk bl k = some x
  | [], h => by cases h
  | p :: r, h => by
    rw [only] at h
    cases hh : has ks p.1 with
    | true =>
      rw [hh] at h
      have h : lk (p :: only ks r) k = some x := h
      rw [lk_cons] at h ⊢
      by_cases hp : p.1 = k
      · rw [if_pos hp] at h ⊢; exact ⟨hp ▸ hh, h⟩
      · rw [if_neg hp] at h ⊢; exact lk_only h
    | false =>
      rw [hh] at h
      have h : lk (only ks r) k = some x := h
      obtain ⟨h1, h2⟩ := lk_only h
      refine ⟨h1, ?_⟩
      rw [lk_cons, if_neg (fun e => by rw [e, h1] at hh; cases hh)]
      exact h2
theorem lk_seen {see : Option (List Nat)} {bl : List (Nat × Blk)} {k : Nat} {x : Blk} (h : lk (seen see bl) k = some x) : unseen see k = false ∧ lk bl k = some x := by
  cases see with
  | none => exact ⟨rfl, h⟩
  | some ks =>
    obtain ⟨h1, h2⟩ := lk_only h
    refine ⟨?_, h2⟩
    show cond (has ks k) false true = false
    rw [h1]; rfl

/-- What j may see is as it is. -/
theorem Inv.vis (hP : DrawP l bs s0.nb δ) (hi : Inv B D l bs s0 δ E μ S w a) {j : Nat} (hj : j < l.length) (hjE : E j = false) (hsee : (δ j).see = seeOf l bs s0 δ j) (hpre : ∀ p, p < l.length → sbit (snum bs j) p = true → E p = true)
    {k : Nat} {x : Blk} (hx0 : lk (srOf l bs s0 δ j).bl k = some x) (hd : x ≠ .dead) : lk (J Dlt.bl δ E l.length ++ s0.bl) k = some x ∧ x.lim (nuOf s0.nb δ j) ∧ k < nuOf s0.nb δ j := by
  obtain ⟨hun, hx⟩ := lk_seen hx0
  rw [← hsee] at hun
  have old : ∀ {i'}, unseen (δ j).see k = true ∨ i' → i' := fun h => h.resolve_left (by rw [hun]; simp)
  rcases J_lk hx with ⟨p, h1, h2, h3, h4⟩ | ⟨h1, h2⟩
  · have hpl : p < l.length := by omega
    have hpE := hpre p hpl h2
    obtain ⟨m1, m2⟩ := hi.M p hpl hpE k x h3
    have hle := nu_mono hP (i := p + 1) (j := j) h1 (by omega)
    refine ⟨?_, Blk.lim_mono hle m1, Nat.lt_of_lt_of_le (m2 hd) hle⟩
    rw [J_top hpl hpE (lk_key h3) ?_]
    · exact h3
    · intro i' g1 g2 g3 hk
      cases hb : sbit (snum bs j) i' with
      | true => exact h4 i' g1 (hP.bit_lt j i' hj g2 hb) hb hk
      | false => exact (old (hP.apartK i' j k g2 hj (hi.un hj hjE g2 g3 hb) hk).2).2 p hpl h2 (lk_key h3)
  · obtain ⟨m1, m2⟩ := hi.M0 k x h2
    have hle := nu_mono hP (i := 0) (j := j) (Nat.zero_le _) (by omega)
    refine ⟨?_, Blk.lim_mono hle m1, Nat.lt_of_lt_of_le (m2 hd) hle⟩
    rw [J_none ?_]
    · exact h2
    · intro i' g2 g3 hk
      cases hb : sbit (snum bs j) i' with
      | true => exact h1 i' (hP.bit_lt j i' hj g2 hb) hb hk
      | false =>
        have := (old (hP.apartK i' j k g2 hj (hi.un hj hjE g2 g3 hb) hk).2).1
        have := m2 hd
        omega

theorem mem_loose {j t : Nat} : t ∈ loose bs l j ↔ ∃ i, i < l.length ∧ unord bs j i = true ∧ dstOf l i = some t := by
  unfold loose
  rw [slen_eq]
  have h : ∀ (r : List Nat), t ∈ skeep (fun i => cond (unord bs j i) (dstOf l i) none) r ↔ ∃ i ∈ r, unord bs j i = true ∧ dstOf l i = some t := by
    intro r
    induction r with
    | nil => simp [skeep]
    | cons x r ih =>
      rw [skeep]
      cases hu : unord bs j x with
      | false =>
        simp only [cond_false]
        rw [ih]
        constructor
        · rintro ⟨i, h1, h2⟩; exact ⟨i, by simp [h1], h2⟩
        · rintro ⟨i, h1, h2, h3⟩
          rcases List.mem_cons.1 h1 with rfl | h1
          · rw [hu] at h2; cases h2
          · exact ⟨i, h1, h2, h3⟩
      | true =>
        simp only [cond_true]
        cases hd : dstOf l x with
        | none =>
          dsimp only
          rw [ih]
          constructor
          · rintro ⟨i, h1, h2⟩; exact ⟨i, by simp [h1], h2⟩
          · rintro ⟨i, h1, h2, h3⟩
            rcases List.mem_cons.1 h1 with rfl | h1
            · rw [hd] at h3; cases h3
            · exact ⟨i, h1, h2, h3⟩
        | some d =>
          dsimp only
          rw [List.mem_cons, ih]
          constructor
          · rintro (rfl | ⟨i, h1, h2⟩)
            · exact ⟨x, by simp, hu, hd⟩
            · exact ⟨i, by simp [h1], h2⟩
          · rintro ⟨i, h1, h2, h3⟩
            rcases List.mem_cons.1 h1 with rfl | h1
            · rw [hd] at h3; cases h3; exact .inl rfl
            · exact .inr ⟨i, h1, h2, h3⟩
  rw [h]
  constructor
  · rintro ⟨i, h1, h2⟩; exact ⟨i, by have := mem_srange.1 h1; omega, h2⟩
  · rintro ⟨i, h1, h2⟩; exact ⟨i, mem_srange.2 ⟨Nat.zero_le _, by omega⟩, h2⟩

theorem unord_symm {i j : Nat} (h : unord bs i j = true) : unord bs j i = true := by
  unfold unord at h ⊢
  have e : Nat.beq j i = Nat.beq i j := by
    cases h1 : Nat.beq i j with
    | true => rw [beq_true h1] at *; simp
    | false =>
      cases h2 : Nat.beq j i with
      | false => rfl
      | true => rw [beq_true h2] at h1; simp at h1
  rw [e]
  cases h1 : Nat.beq i j <;> rw [h1] at h
  · cases h2 : sbit (snum bs i) j <;> rw [h2] at h <;> cases h3 : sbit (snum bs j) i <;> rw [h3] at h <;> first | rfl | cases h
  · cases h

theorem lk_junks {ws : List Nat} {fr : List (Nat × AV)} {t : Nat} {v : AV} (h : lk (sapp (smap (fun t => (t, AV.junk)) ws) fr) t = some v) : v = .junk ∨ (t ∉ ws ∧ lk fr t = some v) := by
  induction ws with
  | nil => exact .inr ⟨by simp, h⟩
  | cons u r ih =>
    rw [smap, sapp, lk_cons] at h
    by_cases hut : u = t
    · rw [if_pos hut] at h; cases h; exact .inl rfl
    · rw [if_neg hut] at h
      rcases ih h with h1 | ⟨h1, h2⟩
      · exact .inl h1
      · refine .inr ⟨?_, h2⟩
        simp only [List.mem_cons, not_or]
        exact ⟨fun e => hut e.symm, h1⟩

/-- The state that j is read in is what it finds. -/
theorem Inv.at (hP : DrawP l bs s0.nb δ) (hi : Inv B D l bs s0 δ E μ S w a) {j : Nat} (hj : j < l.length) (hjE : E j = false) (hsee : (δ j).see = seeOf l bs s0 δ j) (hpre : ∀ p, p < l.length → sbit (snum bs j) p = true → E p = true) :
    SimB (restr μ (nuOf s0.nb δ j)) S w (srOf l bs s0 δ j).bl (srOf l bs s0 δ j).nb ∧ SimF (restr μ (nuOf s0.nb δ j)) S w (srOf l bs s0 δ j).fr a := by
  have hvis := fun {k x} => hi.vis hP hj hjE hsee hpre (k := k) (x := x)
  have hliv : ∀ b, Liv (restr μ (nuOf s0.nb δ j)) (srOf l bs s0 δ j).bl b → Liv μ (J Dlt.bl δ E l.length ++ s0.bl) b := by
    rintro b ⟨k, x, p, hk, hx, hp, hn, hb⟩
    exact ⟨k, x, p, (hvis hk hx).1, hx, (restr_some hp).2, hn, hb⟩
  refine ⟨⟨fun k p hk => (restr_some hk).1, ?_, fun b hb => hi.old b (hliv b hb), ?_, hi.sb, hi.gl⟩, ⟨?_⟩⟩
  · intro k x hk
    by_cases hd : x = .dead
    · subst hd; trivial
    · obtain ⟨h1, h2, h3⟩ := hvis hk hd
      exact RB.restr h2 (fun _ => h3) (hi.blk k x h1)
  · intro k k' x x' p p' hk hk' hx hx' hp hp' hn hn' hb
    exact hi.inj k k' x x' p p' (hvis hk hx).1 (hvis hk' hx').1 hx hx' (restr_some hp).2 (restr_some hp').2 hn hn' hb
  · intro t v ht
    rcases lk_junks ht with rfl | ⟨hnl, ht⟩
    · trivial
    have notLoose : ∀ i', i' < l.length → E i' = true → dstOf l i' = some t → sbit (snum bs j) i' = true := by
      intro i' h1 h2 h3
      cases hb : sbit (snum bs j) i' with
      | true => rfl
      | false => exact absurd (mem_loose.2 ⟨i', h1, unord_symm (hi.un hj hjE h1 h2 hb), h3⟩) hnl
    rcases J_lk ht with ⟨p, h1, h2, h3, h4⟩ | ⟨h1, h2⟩
    · have hpl : p < l.length := by omega
      have hpE := hpre p hpl h2
      have hle := nu_mono hP (i := p + 1) (j := j) h1 (by omega)
      refine RV.restr (AV.lim_mono hle (hi.FM p hpl hpE t v h3)) (hi.FI p hpl hpE t v h3 fun i' g1 g2 g3 g4 => ?_)
      have hb := notLoose i' g1 g2 g4
      have hlt := hP.bit_lt j i' hj g1 hb
      have hown := hP.own i' t g1 g4
      have hle : i' < p := by
        rcases Nat.lt_or_ge p i' with h | h
        · exact absurd hown (h4 i' h hlt hb)
        · omega
      cases hb2 : sbit (snum bs p) i' with
      | true => rfl
      | false =>
        exfalso
        have hun : unord bs i' p = true := unord_of g3 (by
          cases h : sbit (snum bs i') p with
          | false => rfl
          | true => have := hP.bit_lt i' p g1 hpl h; omega) hb2
        exact hP.apartF i' p t g1 hpl hun g4 (lk_key h3)
    · have hle := nu_mono hP (i := 0) (j := j) (Nat.zero_le _) (by omega)
      refine RV.restr (AV.lim_mono hle (hi.FM0 t v h2)) (hi.F0 t v h2 fun i' g1 g2 g4 => ?_)
      have hb := notLoose i' g1 g2 g4
      exact h1 i' (hP.bit_lt j i' hj g1 hb) hb (hP.own i' t g1 g4)

end
end Go.Pv

/- Regions that draw their order: behind one operation more. -/
set_option linter.unusedVariables false
set_option linter.unusedSimpArgs false
namespace Go.Pv

section
variable {B : Base} {D : Nat → Bool} {l : List Oper} {bs : List Nat} {s0 : St} {δ : Nat → Dlt} {E E' : Nat → Bool} {μ μ' : Nat → Option At} {S S' : Nat → Prop} {w w' : World} {a a' : Act}

def mend (μ μ' : Nat → Option At) (lo hi : Nat) : Nat → Option At := fun k => if lo ≤ k ∧ k < hi then μ' k else μ k

theorem Inv.done (hP : DrawP l bs s0.nb δ) (hi : Inv B D l bs s0 δ E μ S w a) {j : Nat} (hj : j < l.length) (hjE : E j = false) (hsee : (δ j).see = seeOf l bs s0 δ j) (hpre : ∀ p, p < l.length → sbit (snum bs j) p = true → E p = true)
    (hE' : ∀ i, E' i = true ↔ i = j ∨ E i = true) (hB0 : B.nb ≤ s0.nb)
    (hs : StepB (restr μ (nuOf s0.nb δ j)) S w (srOf l bs s0 δ j).bl (nuOf s0.nb δ j) μ' S' w' ((δ j).bl ++ (srOf l bs s0 δ j).bl) (nuOf s0.nb δ (j + 1)))
    (hf : SimF μ' S' w' ((δ j).fr ++ (srOf l bs s0 δ j).fr) a') (hsize : a'.tmps.size = a.tmps.size) (hkeep : ∀ t, dstOf l j ≠ some t → a'.tmps.getD t undef = a.tmps.getD t undef) (hDj : ∀ t, dstOf l j = some t → D t = true)
    (hmk : Mk B.T w.heap.size a.defers S' w' a'.defers) :
    Inv B D l bs s0 δ E' (mend μ μ' (nuOf s0.nb δ j) (nuOf s0.nb δ (j + 1))) S' w' a' := by
  obtain ⟨hBj, hFj⟩ := hi.at hP hj hjE hsee hpre
  have hnu0 := nu_mono hP (i := 0) (j := j) (Nat.zero_le _) (by omega)
  have hnu1 := hP.mono j hj
  have hvis := fun {k x} => hi.vis hP hj hjE hsee hpre (k := k) (x := x)
  -- the new places
  have ext : ∀ k p, μ k = some p → mend μ μ' (nuOf s0.nb δ j) (nuOf s0.nb δ (j + 1)) k = some p := by
    intro k p hk
    unfold mend
    split
    · rename_i hr
      exfalso
      rcases hi.U k p hk with h | ⟨i, h1, h2, h3, h4⟩
      · have : s0.nb ≤ nuOf s0.nb δ j := hnu0
        omega
      · rcases Nat.lt_trichotomy i j with h | h | h
        · have := nu_mono hP (i := i + 1) (j := j) h (by omega); omega
        · subst h; rw [hjE] at h2; cases h2
        · have := nu_mono hP (i := j + 1) (j := i) h (by omega); omega
    · exact hk
  have ext' : ∀ k p, μ' k = some p → mend μ μ' (nuOf s0.nb δ j) (nuOf s0.nb δ (j + 1)) k = some p := by
    intro k p hk
    have hlt := hs.1.dom k p hk
    unfold mend
    split
    · exact hk
    · rename_i hr
      have hlo : k < nuOf s0.nb δ j := by omega
      rw [hs.2.2.2 k hlo] at hk
      exact (restr_some hk).2
  have back : ∀ {k p q}, mend μ μ' (nuOf s0.nb δ j) (nuOf s0.nb δ (j + 1)) k = some p → μ' k = some q → p = q := by
    intro k p q h1 h2
    rw [ext' k q h2] at h1; cases h1; rfl
  have backE : ∀ {k p q}, mend μ μ' (nuOf s0.nb δ j) (nuOf s0.nb δ (j + 1)) k = some p → μ k = some q → p = q := by
    intro k p q h1 h2
    rw [ext k q h2] at h1; cases h1; rfl
  have hSS := hs.2.1.sub
  have hSsame : ∀ b, S b → w'.heap[b]? = w.heap[b]? := fun b hb => hs.still hBj b hb
  -- looking up behind it
  have hjtop : ∀ {k}, Key (δ j).bl k → ∀ i', j < i' → i' < l.length → E' i' = true → ¬ Key (δ i').bl k := by
    intro k hk i' h1 h2 h3 hk'
    have hE : E i' = true := by rcases (hE' i').1 h3 with h | h; · omega
                                · exact h
    have hb : sbit (snum bs j) i' = false := by
      cases h : sbit (snum bs j) i' with
      | false => rfl
      | true => have := hP.bit_lt j i' hj h2 h; omega
    have hu := hi.un hj hjE h2 hE hb
    exact (hP.apartK i' j k h2 hj hu hk').1 hk
  have lkj : ∀ {k x}, lk (δ j).bl k = some x → lk (J Dlt.bl δ E' l.length ++ s0.bl) k = some x := by
    intro k x hx
    rw [J_top hj ((hE' j).2 (.inl rfl)) (lk_key hx) (hjtop (lk_key hx))]
    exact hx
  have lkE : ∀ {k}, ¬ Key (δ j).bl k → lk (J Dlt.bl δ E' l.length ++ s0.bl) k = lk (J Dlt.bl δ E l.length ++ s0.bl) k := by
    intro k hk
    cases h : lk (J Dlt.bl δ E' l.length ++ s0.bl) k with
    | none =>
      cases h2 : lk (J Dlt.bl δ E l.length ++ s0.bl) k with
      | none => rfl
      | some x =>
        exfalso
        rcases J_lk h2 with ⟨i, g1, g2, g3, g4⟩ | ⟨g1, g2⟩
        · have : lk (J Dlt.bl δ E' l.length ++ s0.bl) k = lk (δ i).bl k := J_top g1 ((hE' i).2 (.inr g2)) (lk_key g3) fun i' a1 a2 a3 a4 => by
            rcases (hE' i').1 a3 with rfl | a3
            · exact hk a4
            · exact g4 i' a1 a2 a3 a4
          rw [h, g3] at this; cases this
        · have : lk (J Dlt.bl δ E' l.length ++ s0.bl) k = lk s0.bl k := J_none fun i a1 a2 a4 => by
            rcases (hE' i).1 a2 with rfl | a2
            · exact hk a4
            · exact g1 i a1 a2 a4
          rw [h, g2] at this; cases this
    | some x =>
      rcases J_lk h with ⟨i, g1, g2, g3, g4⟩ | ⟨g1, g2⟩
      · have hiE : E i = true := by
          rcases (hE' i).1 g2 with rfl | g2
          · exact absurd (lk_key g3) hk
          · exact g2
        rw [J_top g1 hiE (lk_key g3) fun i' a1 a2 a3 a4 => g4 i' a1 a2 ((hE' i').2 (.inr a3)) a4]
        exact g3.symm
      · rw [J_none fun i a1 a2 a4 => g1 i a1 ((hE' i).2 (.inr a2)) a4]
        exact g2.symm
  have notlive : ∀ {k x p}, lk (J Dlt.bl δ E l.length ++ s0.bl) k = some x → x ≠ .dead → μ k = some p → p.nl = false → (∀ y, lk (srOf l bs s0 δ j).bl k = some y → y = .dead) → ¬ Liv (restr μ (nuOf s0.nb δ j)) (srOf l bs s0 δ j).bl p.b := by
    rintro k x p hk hx hp hn hy ⟨k', y, q, g1, g2, g3, g4, g5⟩
    have h1 := (hvis g1 g2).1
    have := hi.inj k k' x y p q hk h1 hx g2 hp (restr_some g3).2 hn g4 g5.symm
    subst this
    exact g2 (hy y g1)
  have hlivE : ∀ b, Liv (restr μ (nuOf s0.nb δ j)) (srOf l bs s0 δ j).bl b → Liv μ (J Dlt.bl δ E l.length ++ s0.bl) b := by
    rintro b ⟨k, x, p, hk, hx, hp, hn, hb⟩
    exact ⟨k, x, p, (hvis hk hx).1, hx, (restr_some hp).2, hn, hb⟩
  have cls : ∀ {k x}, lk (J Dlt.bl δ E' l.length ++ s0.bl) k = some x → x ≠ .dead → lk ((δ j).bl ++ (srOf l bs s0 δ j).bl) k = some x ∨
      (lk (J Dlt.bl δ E l.length ++ s0.bl) k = some x ∧ ∀ y, lk (srOf l bs s0 δ j).bl k = some y → y = .dead) := by
    intro k x hk hx
    by_cases hkey : Key (δ j).bl k
    · obtain ⟨y, hy⟩ := key_lk hkey
      have := lkj hy
      rw [hk] at this; cases this
      left; rw [lk_app.1 hkey]; exact hy
    · rw [lkE hkey] at hk
      cases hsr : lk (srOf l bs s0 δ j).bl k with
      | none => exact .inr ⟨hk, fun y hy => by cases hy⟩
      | some y =>
        by_cases hyd : y = .dead
        · exact .inr ⟨hk, fun z hz => by cases hz; exact hyd⟩
        · have h1 := (hvis hsr hyd).1
          rw [hk] at h1; cases h1
          left; rw [lk_app.2 hkey]; exact hsr
  have muOf : ∀ {μ : Nat → Option At} {S w k x}, RB μ S w k x → x ≠ .dead → ∃ q, μ k = some q := by
    intro μ S w k x h hx
    cases x with
    | box v => obtain ⟨p, hp, _⟩ := h; exact ⟨p, hp⟩
    | row e xs => obtain ⟨p, hp, _⟩ := h; exact ⟨p, hp⟩
    | vals n sz vs => obtain ⟨p, hp, _⟩ := h; exact ⟨p, hp⟩
    | map kt vt es => obtain ⟨p, hp, _⟩ := h; exact ⟨p, hp⟩
    | dead => exact absurd rfl hx
  have pA : ∀ {k x p}, lk ((δ j).bl ++ (srOf l bs s0 δ j).bl) k = some x → x ≠ .dead → mend μ μ' (nuOf s0.nb δ j) (nuOf s0.nb δ (j + 1)) k = some p → μ' k = some p := by
    intro k x p hk hx hp
    obtain ⟨q, hq⟩ := muOf (hs.1.blk k x hk) hx
    rw [back hp hq]; exact hq
  have pB : ∀ {k x p}, lk (J Dlt.bl δ E l.length ++ s0.bl) k = some x → x ≠ .dead → mend μ μ' (nuOf s0.nb δ j) (nuOf s0.nb δ (j + 1)) k = some p → μ k = some p := by
    intro k x p hk hx hp
    obtain ⟨q, hq⟩ := muOf (hi.blk k x hk) hx
    rw [backE hp hq]; exact hq
  have hevo := hs.2.1
  have livNew : ∀ b, Liv (mend μ μ' (nuOf s0.nb δ j) (nuOf s0.nb δ (j + 1))) (J Dlt.bl δ E' l.length ++ s0.bl) b → Liv μ (J Dlt.bl δ E l.length ++ s0.bl) b ∨ w.heap.size ≤ b := by
    rintro b ⟨k, x, p, hk, hx, hp, hn, hb⟩
    rcases cls hk hx with h | ⟨h, _⟩
    · rcases hevo.liv b ⟨k, x, p, h, hx, pA h hx hp, hn, hb⟩ with h | h
      · exact .inl (hlivE b h)
      · exact .inr h
    · exact .inl ⟨k, x, p, h, hx, pB h hx hp, hn, hb⟩
  -- one of j's, one of the others
  have mixed : ∀ {k k' x x' p p'}, lk ((δ j).bl ++ (srOf l bs s0 δ j).bl) k = some x → x ≠ .dead → μ' k = some p → p.nl = false → lk (J Dlt.bl δ E l.length ++ s0.bl) k' = some x' → x' ≠ .dead → μ k' = some p' → p'.nl = false →
      (∀ y, lk (srOf l bs s0 δ j).bl k' = some y → y = .dead) → p.b ≠ p'.b := by
    intro k k' x x' p p' hk hx hp hn hk' hx' hp' hn' hy e
    rcases hevo.liv p.b ⟨k, x, p, hk, hx, hp, hn, rfl⟩ with h | h
    · rw [e] at h; exact notlive hk' hx' hp' hn' hy h
    · have := (hi.old p'.b ⟨k', x', p', hk', hx', hp', hn', rfl⟩).1
      omega
  have stillE : ∀ {i}, E i = true → i ≠ j := fun h e => by rw [e, hjE] at h; cases h
  refine ⟨?_, ?_, ?_, ?_, hs.1.sb, hs.1.gl, ?_, ?_, ?_, ?_, hi.M0, ?_, hi.FM0, ?_, ?_, hi.mks.trans hi.evo.size hmk (hs.mark hBj), hsize.trans hi.asize, ?_⟩
  · intro i hil hiE p hp hb
    rcases (hE' i).1 hiE with rfl | h
    · exact (hE' p).2 (.inr (hpre p hp hb))
    · exact (hE' p).2 (.inr (hi.down i hil h p hp hb))
  · intro k x hk
    by_cases hx : x = .dead
    · subst hx; trivial
    rcases cls hk hx with h | ⟨h, hy⟩
    · exact RB.move ext' (fun _ h => h) (fun _ _ => rfl) (fun _ _ _ _ => rfl) (hs.1.blk k x h)
    · exact RB.move ext hSS hSsame (fun p hp hn _ => hevo.same _ (hi.old _ ⟨k, x, p, h, hx, hp, hn, rfl⟩).1 (notlive h hx hp hn hy)) (hi.blk k x h)
  · rintro b ⟨k, x, p, hk, hx, hp, hn, hb⟩
    rcases cls hk hx with h | ⟨h, hy⟩
    · exact hs.1.old b ⟨k, x, p, h, hx, pA h hx hp, hn, hb⟩
    · obtain ⟨h1, h2⟩ := hi.old b ⟨k, x, p, h, hx, pB h hx hp, hn, hb⟩
      refine ⟨Nat.lt_of_lt_of_le h1 hevo.size, fun hS' => ?_⟩
      rcases hevo.new b hS' with g | g | g
      · exact h2 g
      · omega
      · rw [← hb] at g; exact notlive h hx (pB h hx hp) hn hy g
  · intro k k' x x' p p' hk hk' hx hx' hp hp' hn hn' hb
    rcases cls hk hx with h | ⟨h, hy⟩ <;> rcases cls hk' hx' with h' | ⟨h', hy'⟩
    · exact hs.1.inj k k' x x' p p' h h' hx hx' (pA h hx hp) (pA h' hx' hp') hn hn' hb
    · exact absurd hb (mixed h hx (pA h hx hp) hn h' hx' (pB h' hx' hp') hn' hy')
    · exact absurd hb.symm (mixed h' hx' (pA h' hx' hp') hn' h hx (pB h hx hp) hn hy)
    · exact hi.inj k k' x x' p p' h h' hx hx' (pB h hx hp) (pB h' hx' hp') hn hn' hb
  · refine hi.evo.trans ⟨hevo.os, hevo.tape, hevo.output, hevo.size, fun b hb hn => hevo.same b hb (fun h => hn (hlivE b h)), hevo.sub, fun b hb => ?_, livNew, ext⟩
    rcases hevo.new b hb with h | h | h
    · exact .inl h
    · exact .inr (.inl h)
    · exact .inr (.inr (hlivE b h))
  · intro k hk
    have h0 : s0.nb ≤ nuOf s0.nb δ j := hnu0
    rw [mend, if_neg (by omega)]
    exact hi.low k hk
  · intro k p hk
    unfold mend at hk
    split at hk
    · rename_i hr
      exact .inr ⟨j, hj, (hE' j).2 (.inl rfl), hr.1, hr.2⟩
    · rcases hi.U k p hk with h | ⟨i, h1, h2, h3⟩
      · exact .inl h
      · exact .inr ⟨i, h1, (hE' i).2 (.inr h2), h3⟩
  · intro i hil hiE k x hk
    rcases (hE' i).1 hiE with rfl | h
    · have : lk ((δ i).bl ++ (srOf l bs s0 δ i).bl) k = some x := by rw [lk_app.1 (lk_key hk)]; exact hk
      exact RB.below hs.1.dom (hs.1.blk k x this)
    · exact hi.M i hil h k x hk
  · intro i hil hiE t v hv
    rcases (hE' i).1 hiE with rfl | h
    · have : lk ((δ i).fr ++ (srOf l bs s0 δ i).fr) t = some v := by rw [lk_app.1 (lk_key hv)]; exact hv
      exact RV.below hs.1.dom (hf.slot t v this)
    · exact hi.FM i hil h t v hv
  · intro i hil hiE t v hv hpr
    rcases (hE' i).1 hiE with rfl | h
    · have : lk ((δ i).fr ++ (srOf l bs s0 δ i).fr) t = some v := by rw [lk_app.1 (lk_key hv)]; exact hv
      exact RV.move ext' (fun _ h => h) (fun _ _ => rfl) (hf.slot t v this)
    · have hne : dstOf l j ≠ some t := fun e => by
        have := hi.down i hil h j hj (hpr j hj ((hE' j).2 (.inl rfl)) (fun e => stillE h e.symm) e)
        rw [hjE] at this; cases this
      rw [hkeep t hne]
      exact RV.move ext hSS hSsame (hi.FI i hil h t v hv fun i' a1 a2 a3 a4 => hpr i' a1 ((hE' i').2 (.inr a2)) a3 a4)
  · intro t v hv hpr
    rw [hkeep t (hpr j hj ((hE' j).2 (.inl rfl)))]
    exact RV.move ext hSS hSsame (hi.F0 t v hv fun i' a1 a2 => hpr i' a1 ((hE' i').2 (.inr a2)))
  · intro t ht
    rw [hkeep t (fun e => by rw [hDj t e] at ht; cases ht)]
    exact hi.keep t ht

end
end Go.Pv

/- Regions that draw their order run as they are read. -/
set_option linter.unusedVariables false
set_option linter.unusedSimpArgs false
namespace Go.Pv

/-- What runs functions in place does so whatever follows. -/
def InlNat {R : Type} (inl : Nat → AV → St → (AV → St → Option R) → Option R) (inlS : Nat → AV → St → (AV → St → Option (AV × St)) → Option (AV × St)) : Prop :=
  ∀ g as st K, inl g as st K = ob (inlS g as st fun x s => some (x, s)) fun p => K p.1 p.2

structure InlsOk (P : Program) {R : Type} (inl : Nat → AV → St → (AV → St → Option R) → Option R) : Prop where
  ok : InlOk P inl
  nat : ∃ inlS, InlNat inl inlS ∧ InlOk P inlS

section
variable {P : Program} {B : Base} {D : Nat → Bool} {μ : Nat → Option At} {S : Nat → Prop} {w : World} {st : St} {a : Act}

theorem J_empty {α : Type} {f : Dlt → List (Nat × α)} {δ : Nat → Dlt} {sel : Nat → Bool} : ∀ {n : Nat}, (∀ i, i < n → sel i = false) → J f δ sel n = []
  | 0, _ => rfl
  | n + 1, h => by rw [J, h n (Nat.lt_succ_self n), J_empty fun i hi => h i (by omega)]; rfl

theorem J_sel {α : Type} {f : Dlt → List (Nat × α)} {δ : Nat → Dlt} {sel sel' : Nat → Bool} : ∀ {n : Nat}, (∀ i, i < n → sel i = sel' i) → J f δ sel n = J f δ sel' n
  | 0, _ => rfl
  | n + 1, h => by rw [J, J, h n (Nat.lt_succ_self n), J_sel fun i hi => h i (by omega)]

def cnt (f : Nat → Bool) : Nat → Nat
  | 0 => 0
  | n + 1 => cnt f n + cond (f n) 0 1

theorem cnt_zero {f : Nat → Bool} : ∀ {n : Nat}, cnt f n = 0 → ∀ i, i < n → f i = true
  | 0, _, i, hi => by omega
  | n + 1, h, i, hi => by
    rw [cnt] at h
    have h1 : cnt f n = 0 := by omega
    have h2 : cond (f n) 0 1 = 0 := by omega
    by_cases hin : i = n
    · subst hin
      cases hf : f i with
      | true => rfl
      | false => rw [hf] at h2; cases h2
    · exact cnt_zero h1 i (by omega)

theorem cnt_mono {f g : Nat → Bool} (h : ∀ i, f i = true → g i = true) : ∀ {n : Nat}, cnt g n ≤ cnt f n
  | 0 => Nat.le_refl _
  | n + 1 => by
    rw [cnt, cnt]
    have ih := cnt_mono h (n := n)
    cases hf : f n with
    | true => rw [h n hf]; exact ih
    | false => cases g n <;> simp only [cond_true, cond_false] <;> omega

theorem cnt_less {f g : Nat → Bool} (h : ∀ i, f i = true → g i = true) {j : Nat} (hf : f j = false) (hg : g j = true) : ∀ {n : Nat}, j < n → cnt g n + 1 ≤ cnt f n
  | 0, hj => by omega
  | n + 1, hj => by
    rw [cnt, cnt]
    by_cases hjn : j = n
    · subst hjn
      rw [hf, hg]
      have := cnt_mono h (n := j)
      simp only [cond_true, cond_false]
      omega
    · have ih := cnt_less h hf hg (n := n) (by omega)
      cases hfn : f n with
      | true => rw [h n hfn]; simpa using ih
      | false => cases g n <;> simp only [cond_true, cond_false] <;> omega

theorem binding_eq (e : Edge) : binding e = Region.binds .any e := by
  unfold binding Region.binds
  cases e.ground <;> rfl

theorem splitG_now {ops : List Oper} {o : Oper} {st'' : St} (hn : Now B D μ S w st a) (h : splitG ops o st some = some st'') : Now B D μ S w st'' a := by
  unfold splitG at h
  split at h
  · cases h; exact hn
  · rename_i d _
    cases hg : isGuard ops d with
    | false => rw [hg] at h; cases h; exact hn
    | true =>
      rw [hg] at h
      simp only [cond_true] at h
      split at h
      · rename_i b hb
        have hv := hn.fr.slot d _ hb
        cases b with
        | true => cases h; exact hn.set hv
        | false => cases h; exact hn.set hv
      · cases h; exact hn

theorem drawOps_ok {R : Type} {L : Lib} (hL : LibOk P L) {inl : Nat → AV → St → (AV → St → Option R) → Option R} (hI : InlsOk P inl) (hD : ∀ t, D t = true → t < B.a.tmps.size) {id : Nat} {ops : Array Oper} (hdst : ∀ t ∈ opsDsts ops.toList, D t = true)
    {K : St → Option R} {r : R} {Q : Exit → Act → World → Prop} (hK : ∀ μ' S' w' st' a', Now B D μ' S' w' st' a' → K st' = some r → Q .normal a' w')
    (h : drawOps L inl ops.toList (befores ops.toList []) st 0 ops.toList st.nb [] K = some r) (hn : Now B D μ S w st a) : (Code.region id ops true).wp P Q a w := by
  obtain ⟨inlS, hnat, hokS⟩ := hI.nat
  let inlX : Nat → AV → St → (AV → St → Option St) → Option St := fun g as s K' => ob (inlS g as s fun x s => some (x, s)) fun p => K' p.1 p.2
  have hIK : ∀ k : St → Option R, InlK inl inlX k := fun k g as s K' => by
    rw [hnat, ob_ob]
  have hIX : InlOk P inlX := by
    intro g as vs s K' r' μ S w hh hB hr
    obtain ⟨p, hp, hk⟩ := ob_some hh
    obtain ⟨i1, i2⟩ := hokS g as vs s (fun x s => some (x, s)) p μ S w hp hB hr
    refine ⟨i1, Calls.mono i2 ?_⟩
    intro en w' hen
    cases en with
    | panicked c => exact hen
    | outgrown => exact hen
    | returned v =>
      obtain ⟨ε, nb', μ', S', fr', x, k1, k2⟩ := hen
      simp only [Option.some.injEq] at k1
      subst k1
      exact ⟨ε, nb', μ', S', fr', x, hk, k2⟩
  generalize hbs : befores ops.toList [] = bs at h
  obtain ⟨δ, _, hT, hok, hfin⟩ := trace hIK (q := ops.toList) (j := 0) (δ0 := fun _ => ⟨[], [], 0, none⟩) (Nat.zero_le _) rfl rfl rfl h
  have hP := drawP_of hok
  have hlen : ops.toList.length = ops.size := by simp
  refine wp_region_any hL.order ?_
  have main : ∀ (fuel : Nat) (listed : Array Bool) (μ : Nat → Option At) (S : Nat → Prop) (w : World) (a : Act), listed.size = ops.size → cnt (fun i => listed.getD i false) ops.size ≤ fuel →
      Inv B D ops.toList bs st δ (fun i => listed.getD i false) μ S w a → wpAny P .any ops Q fuel listed a w := by
    -- all have run
    have last : ∀ (listed : Array Bool) (μ : Nat → Option At) (S : Nat → Prop) (w : World) (a : Act), (∀ i, i < ops.size → listed.getD i false = true) → Inv B D ops.toList bs st δ (fun i => listed.getD i false) μ S w a → Q .normal a w := by
      intro listed μ S w a hall hi
      have hsel : ∀ i, i < ops.toList.length → (fun i => listed.getD i false) i = (fun _ => true) i := fun i hil => hall i (by omega)
      have e1 := J_sel (f := Dlt.bl) (δ := δ) hsel
      have e2 := J_sel (f := Dlt.fr) (δ := δ) hsel
      have hnu := nu_mono hP (i := 0) (j := ops.toList.length) (Nat.zero_le _) (Nat.le_refl _)
      have hnu : st.nb ≤ nuOf st.nb δ ops.toList.length := hnu
      refine hK μ S w _ a ⟨⟨⟨?_, ?_, ?_, ?_, hi.sb, hi.gl⟩, ?_, ?_, hi.low⟩, ⟨?_⟩, hi.asize, hi.keep, ?_, ?_, hi.mks⟩ hfin
      · intro k p hk
        rcases hi.U k p hk with h | ⟨i, h1, h2, h3, h4⟩
        · exact Nat.lt_of_lt_of_le h hnu
        · exact Nat.lt_of_lt_of_le h4 (nu_mono hP (i := i + 1) h1 (Nat.le_refl _))
      · intro k x hk; exact hi.blk k x (by rw [e1]; exact hk)
      · intro b hb; exact hi.old b (by rw [e1]; exact hb)
      · intro k k' x x' p p' hk hk'; exact hi.inj k k' x x' p p' (by rw [e1]; exact hk) (by rw [e1]; exact hk')
      · have := hi.evo; rw [e1] at this; exact this
      · exact Nat.le_trans hn.step.2.2.1 hnu
      · intro t v ht
        rcases J_lk ht with ⟨p, h1, h2, h3, h4⟩ | ⟨h1, h2⟩
        · refine hi.FI p h1 (hall p (by omega)) t v h3 fun i' g1 g2 g3 g4 => ?_
          have hown := hP.own i' t g1 g4
          have hle : i' < p := by
            rcases Nat.lt_or_ge p i' with h | h
            · exact absurd hown (h4 i' h g1 rfl)
            · omega
          cases hb2 : sbit (snum bs p) i' with
          | true => rfl
          | false =>
            exfalso
            exact hP.apartF i' p t g1 h1 (unord_of g3 (by
              cases h : sbit (snum bs i') p with
              | false => rfl
              | true => have := hP.bit_lt i' p g1 h1 h; omega) hb2) g4 (lk_key h3)
        · exact hi.F0 t v h2 fun i' g1 g2 g3 => h1 i' g1 rfl (hP.own i' t g1 g3)
      · obtain ⟨ε, he⟩ := hn.ext
        exact ⟨J Dlt.bl δ (fun _ => true) ops.toList.length ++ ε, by rw [List.append_assoc, ← he]⟩
      · obtain ⟨ε, he⟩ := hn.fext
        exact ⟨J Dlt.fr δ (fun _ => true) ops.toList.length ++ ε, by rw [List.append_assoc, ← he]⟩
    -- none is ready: all have run
    have noReady : ∀ (listed : Array Bool), listed.size = ops.size → Region.ready .any ops listed = [] → ∀ i, i < ops.size → listed.getD i false = true := by
      intro listed hsz hr i
      induction i using Nat.strongRecOn with
      | _ i ih =>
        intro hi
        cases hl : listed.getD i false with
        | true => rfl
        | false =>
          exfalso
          have hmem : i ∈ Region.ready .any ops listed := by
            rw [mem_ready]
            have hilt : i < listed.size := by omega
            refine ⟨?_, ops[i], Array.getElem?_eq_getElem hi, fun e he hb => ?_⟩
            · rw [Array.getD_eq_getD_getElem?, Array.getElem?_eq_getElem hilt] at hl ⊢
              simpa using hl
            · rw [← binding_eq] at hb
              have haf : afterOf ops.toList i = ops[i].after.toList := by
                unfold afterOf
                rw [snth_eq, Array.getElem?_toList, Array.getElem?_eq_getElem hi]
              have hed := hP.edge i e (by omega) (by rw [haf]; exact Array.mem_toList_iff.2 he) hb
              exact ih e.on hed.1 (by omega)
          rw [hr] at hmem; cases hmem
    intro fuel
    induction fuel with
    | zero =>
      intro listed μ S w a hsz hc hi
      have hall := cnt_zero (Nat.le_zero.1 hc)
      refine ⟨?_, last listed μ S w a hall hi⟩
      cases hrd : Region.ready .any ops listed with
      | nil => rfl
      | cons x xs =>
        exfalso
        have hx : x ∈ Region.ready .any ops listed := by rw [hrd]; simp
        obtain ⟨h1, o, ho, _⟩ := mem_ready.1 hx
        have hlt : x < ops.size := (Array.getElem?_eq_some_iff.1 ho).1
        have h2 := hall x hlt
        have hilt : x < listed.size := by omega
        rw [Array.getD_eq_getD_getElem?, Array.getElem?_eq_getElem hilt] at h1 h2
        simp only [Option.getD_some] at h1 h2
        rw [h1] at h2; cases h2
    | succ fuel ih =>
      intro listed μ S w a hsz hc hi
      refine ⟨fun hr => last listed μ S w a (noReady listed hsz hr) hi, fun j hjr => ?_⟩
      obtain ⟨h1, o, ho, hedges⟩ := mem_ready.1 hjr
      have hjs : j < ops.size := (Array.getElem?_eq_some_iff.1 ho).1
      have hjl : j < ops.toList.length := by omega
      have hjlt : j < listed.size := by omega
      have hjE : listed.getD j false = false := by
        rw [Array.getD_eq_getD_getElem?, Array.getElem?_eq_getElem hjlt] at h1 ⊢
        simpa using h1
      have haf : afterOf ops.toList j = o.after.toList := by
        unfold afterOf
        rw [snth_eq, Array.getElem?_toList, ho]
      have hpre : ∀ p, p < ops.toList.length → sbit (snum bs j) p = true → listed.getD p false = true := by
        intro p hp hb
        obtain ⟨e, he, hbind, hor⟩ := hP.bit_by j p hjl hp hb
        rw [haf] at he
        have hon := hedges e (Array.mem_toList_iff.1 he) (by rw [← binding_eq]; exact hbind)
        rcases hor with rfl | hor
        · exact hon
        · have hed := hP.edge j e hjl (by rw [haf]; exact he) hbind
          exact hi.down e.on (by omega) hon p hp hor
      have hsee : (δ j).see = seeOf ops.toList bs st δ j := by
        obtain ⟨_, _, _, _, hδ⟩ := hT j (Nat.zero_le _) hjl
        rw [hδ]
      obtain ⟨hBj, hFj⟩ := hi.at hP hjl hjE hsee hpre
      obtain ⟨o', st', ho', hrun, hδ⟩ := hT j (Nat.zero_le _) hjl
      rw [Array.getElem?_toList, ho] at ho'
      cases ho'
      have hdo : dstOf ops.toList j = o.dst := by rw [dstOf_eq, ho]; rfl
      have hmem : o ∈ ops.toList := List.mem_of_getElem? (by rw [Array.getElem?_toList]; exact ho)
      refine guarded_ok (B := ⟨restr μ (nuOf st.nb δ j), S, w, (srOf ops.toList bs st δ j).bl, (srOf ops.toList bs st δ j).nb, a, (srOf ops.toList bs st δ j).fr, B.T⟩) (D := fun t => decide (o.dst = some t)) hL hIX ?_ ho (fun d hd => by simp [hd]) hrun
        ⟨StepB.refl hBj, hFj, rfl, fun _ _ => rfl, ⟨[], rfl⟩, ⟨[], rfl⟩, Mk.refl⟩ ?_
      · intro t ht
        have ht : o.dst = some t := of_decide_eq_true ht
        have := hD t (hdst t (mem_opsDsts hmem ht))
        show t < a.tmps.size
        rw [hi.asize]; exact this
      · intro μ' S' w' st0 a' hn0 hst
        have hn' := splitG_now hn0 hst
        clear hn0 hst
        obtain ⟨ε, hε⟩ := hn'.ext
        obtain ⟨φ, hφ⟩ := hn'.fext
        have hε : st'.bl = ε ++ (srOf ops.toList bs st δ j).bl := hε
        have hφ : st'.fr = φ ++ (srOf ops.toList bs st δ j).fr := hφ
        have hδb : (δ j).bl = ε := by rw [hδ]; show stake _ st'.bl = ε; rw [hε, stake_app]
        have hδf : (δ j).fr = φ := by rw [hδ]; show stake _ st'.fr = φ; rw [hφ, stake_app]
        have hδn : nuOf st.nb δ (j + 1) = st'.nb := by rw [nuOf, hδ]
        have hstep := hn'.step
        have hfr := hn'.fr
        rw [hε, ← hδb] at hstep
        rw [hφ, ← hδf] at hfr
        have hset : ∀ i, (listed.setIfInBounds j true).getD i false = true ↔ i = j ∨ listed.getD i false = true := by
          intro i
          by_cases hij : i = j
          · subst hij; simp [hjlt]
          · rw [getD_set_ne false (fun e => hij e.symm)]
            simp [hij]
        refine ih _ _ S' w' a' (by simpa using hsz) ?_ (hi.done hP hjl hjE hsee hpre hset hn.step.2.2.1 (by rw [hδn]; exact hstep) hfr hn'.size (fun t ht => hn'.keep t (by rw [hdo] at ht; simp [ht])) (fun t ht => by
          rw [hdo] at ht; exact hdst t (mem_opsDsts hmem ht)) hn'.mks)
        have := cnt_less (f := fun i => listed.getD i false) (g := fun i => (listed.setIfInBounds j true).getD i false) (fun i hh => (hset i).2 (.inr hh)) (j := j) hjE ((hset j).2 (.inl rfl)) (n := ops.size) hjs
        omega
  have hE0 : ∀ i, (Array.replicate ops.size false).getD i false = false := by
    intro i
    rw [Array.getD_eq_getD_getElem?]
    by_cases hi : i < ops.size
    · simp [hi]
    · simp [hi]
  have hJ0 : ∀ {α : Type} {f : Dlt → List (Nat × α)}, J f δ (fun i => (Array.replicate ops.size false).getD i false) ops.toList.length = [] := J_empty fun i _ => hE0 i
  have hB := hn.step.1
  refine main ops.size _ μ S _ a (by simp) ?_ ?_
  · have : ∀ (f : Nat → Bool) n, cnt f n ≤ n := by
      intro f n
      induction n with
      | zero => exact Nat.le_refl _
      | succ n ih => rw [cnt]; cases f n <;> simp only [cond_true, cond_false] <;> omega
    exact this _ _
  · have none : ∀ {i} {T : Prop}, (Array.replicate ops.size false).getD i false = true → T := fun h => by rw [hE0] at h; cases h
    refine ⟨fun i _ h => none h, ?_, ?_, ?_, hB.sb, hB.gl.move (fun _ h => h) (fun _ _ => rfl), ?_, hn.step.2.2.2, fun k p hk => .inl (hB.dom k p hk), fun i _ h => none h, fun k x hk => RB.below hB.dom (hB.blk k x hk), fun i _ h => none h, fun t v ht => RV.below hB.dom (hn.fr.slot t v ht), fun i _ h => none h, fun t v ht _ => RV.move (w := w) (w' := { w with drawn := w.drawn + 1 }) (fun _ _ h => h) (fun _ h => h) (fun _ _ => rfl) (hn.fr.slot t v ht), hn.mks, hn.size, hn.keep⟩
    · intro k x hk
      rw [hJ0] at hk
      exact RB.move (w := w) (w' := { w with drawn := w.drawn + 1 }) (fun _ _ h => h) (fun _ h => h) (fun _ _ => rfl) (fun _ _ _ _ => rfl) (hB.blk k x hk)
    · intro b hb; rw [hJ0] at hb; exact hB.old b hb
    · intro k k' x x' p p' hk hk'; rw [hJ0] at hk hk'; exact hB.inj k k' x x' p p' hk hk'
    · rw [hJ0]
      have he := hn.step.2.1
      exact ⟨he.os, he.tape, ⟨he.output.1, Nat.le_trans he.output.2 (dr_succ _)⟩, he.size, he.same, he.sub, he.new, he.liv, he.mu⟩

end
end Go.Pv
