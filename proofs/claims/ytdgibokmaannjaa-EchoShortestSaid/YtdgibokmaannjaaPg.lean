/- A pure reading of the model's code, and that the run does what it says: part g. -/
import Derived.Test.YtdgibokmaannjaaPf
import Derived.Deep.Slices
import Derived.OpenShut
import Derived.ChangeOld
import Derived.Carry
import Derived.SizedLaws
import Derived.Handed
import Derived.IntWalk
import Derived.RangeFuncIn
import Derived.RangeFuncSeq
import Derived.TacticsIn
import Derived.OrdersIn
/- What the printed texts use: libraries of readings, loops by their numbers, results without their units. -/
set_option linter.unusedVariables false
set_option linter.unusedSimpArgs false
namespace Go.Pv

def codeOf (f : Func) : Code := match f.body with | some c => c | none => .skip
def findLoop (n : Nat) : Code → Nat → Option Code
  | .seq a b, m => match findLoop n a m with | some c => some c | none => findLoop n b m
  | .block i c, _ => findLoop n c i
  | .loop c, m => cond (Nat.beq n m) (some c) (findLoop n c m)
  | .cond _ a b, m => match findLoop n a m with | some c => some c | none => findLoop n b m
  | .scope c, m => match labOf c with
    | some l => cond (Nat.beq n (jid l)) (some (fromLab l c)) (findLoop n c m)
    | none => findLoop n c m
  | _, _ => none
def loopOf (n : Nat) (c : Code) : Code := match findLoop n c 0 with | some c => c | none => .skip

def lkL.{u} {α : Type u} (l : List (Nat × List α)) (k : Nat) : List α :=
  match l with
  | [] => []
  | p :: r => cond (Nat.beq p.1 k) p.2 (lkL r k)

def mkLib (T : Nat → TI) (ents : List (Nat × List Ent)) (bodies : List (Nat × Func)) (f : Nat) (loops : List (Nat × List Lent)) : Lib :=
  ⟨T, fun g => lkL ents g, fun g => lk bodies g, fun g n => cond (Nat.beq g f) (lkL loops n) [], fun _ _ => none, fun _ => false, fun _ => none, fun _ => []⟩

def EntsOk (P : Program) : List (Nat × List Ent) → Prop
  | [] => True
  | p :: r => (∀ e ∈ p.2, EntOk P p.1 e) ∧ EntsOk P r

def BodOk (P : Program) (f : Nat) (fn : Func) : Prop := P.funcs[f]? = some fn ∧ (fn.name == "runtime.NumGoroutine") = false ∧ ∀ c, fn.body = some c → dstIn (fun t => Nat.blt t fn.ntmps) c = true
def BodsOk (P : Program) : List (Nat × Func) → Prop
  | [] => True
  | p :: r => BodOk P p.1 p.2 ∧ BodsOk P r

/-- The loops of this code are known. -/
def LpsOk (P : Program) (fn : Func) (lf : Nat → List Lent) : List (Nat × Code) → Prop
  | [] => True
  | p :: r => (∀ e ∈ lf p.1, LentOk P fn p.2 e) ∧ LpsOk P fn lf r

theorem one_ent {P : Program} {f : Nat} {e : Ent} (h : EntOk P f e) : ∀ e' ∈ [e], EntOk P f e' := fun e' he => by rw [List.mem_singleton.1 he]; exact h
theorem more_ent {P : Program} {f : Nat} {e : Ent} {l : List Ent} (h : EntOk P f e) (hl : ∀ e' ∈ l, EntOk P f e') : ∀ e' ∈ e :: l, EntOk P f e' := fun e' he => by
  rcases List.mem_cons.1 he with rfl | he
  · exact h
  · exact hl _ he
theorem one_lent {P : Program} {fn : Func} {c : Code} {e : Lent} (h : LentOk P fn c e) : ∀ e' ∈ [e], LentOk P fn c e' := fun e' he => by rw [List.mem_singleton.1 he]; exact h
theorem no_lent {P : Program} {fn : Func} {c : Code} : ∀ e' ∈ ([] : List Lent), LentOk P fn c e' := fun e' he => by cases he

theorem entsOk_mem {P : Program} : ∀ {l : List (Nat × List Ent)} {f : Nat} {e : Ent}, EntsOk P l → e ∈ lkL l f → EntOk P f e
  | [], f, e, _, h => by cases h
  | p :: r, f, e, ⟨h1, h2⟩, h => by
    rw [lkL] at h
    cases hb : Nat.beq p.1 f with
    | true =>
      rw [hb] at h
      rw [← Nat.eq_of_beq_eq_true hb]
      exact h1 e h
    | false => rw [hb] at h; exact entsOk_mem h2 h

theorem bodsOk_mem {P : Program} : ∀ {l : List (Nat × Func)} {f : Nat} {fn : Func}, BodsOk P l → lk l f = some fn → BodOk P f fn
  | [], f, fn, _, h => by cases h
  | p :: r, f, fn, ⟨h1, h2⟩, h => by
    rw [lk_cons] at h
    by_cases hb : p.1 = f
    · rw [if_pos hb] at h
      cases h
      rw [← hb]; exact h1
    · rw [if_neg hb] at h; exact bodsOk_mem h2 h

theorem lpsOk_mem {P : Program} {fn : Func} {lf : Nat → List Lent} : ∀ {l : List (Nat × Code)}, LpsOk P fn lf l → ∀ p ∈ l, ∀ e ∈ lf p.1, LentOk P fn p.2 e
  | [], _, p, h => by cases h
  | q :: r, ⟨h1, h2⟩, p, h => by
    rcases List.mem_cons.1 h with rfl | h
    · exact h1
    · exact lpsOk_mem h2 p h

theorem libOk_mk {P : Program} (order : P.follows .mixedOrders = true) {T : Nat → TI} (hT : ∀ t, TiOk P T t) {ents : List (Nat × List Ent)} (he : EntsOk P ents) {bodies : List (Nat × Func)} (hb : BodsOk P bodies)
    {f : Nat} {fn : Func} {c : Code} (hf : P.funcs[f]? = some fn) (hc : fn.body = some c) {loops : List (Nat × List Lent)} {l : List (Nat × Code)} (hlp : loopsIn c 0 = l) (hl : LpsOk P fn (lkL loops) l) : LibOk P (mkLib T ents bodies f loops) where
  order := order
  ti := hT
  ent g e h := entsOk_mem he h
  body g fn' h := bodsOk_mem hb h
  loop g n fn' c0 c' e h0 hg hc' hin := by
    have h : e ∈ cond (Nat.beq g f) (lkL loops n) [] := h0
    clear h0
    cases hbq : Nat.beq g f with
    | false => rw [hbq] at h; cases h
    | true =>
      rw [hbq] at h
      have := Nat.eq_of_beq_eq_true hbq
      subst this
      rw [hf] at hg; cases hg
      rw [hc] at hc'; cases hc'
      rw [hlp] at hin
      exact lpsOk_mem hl (n, c') hin e h
  rng g n rd fn' c0 c' h := by cases h
  opt g e h := by cases h
  alt g e h := by cases h

theorem loops_hyp {P : Program} {T : Nat → TI} {ents : List (Nat × List Ent)} {bodies : List (Nat × Func)} {f : Nat} {fn : Func} {loops : List (Nat × List Lent)} {c : Code} {n : Nat} {l : List (Nat × Code)}
    (hlp : loopsIn c n = l) (hl : LpsOk P fn (lkL loops) l) : ∀ p ∈ loopsIn c n, ∀ e ∈ (mkLib T ents bodies f loops).loop f p.1, LentOk P fn p.2 e := by
  intro p hp e he
  have he : e ∈ cond (Nat.beq f f) (lkL loops p.1) [] := he
  rw [Nat.beq_refl] at he
  rw [hlp] at hp
  exact lpsOk_mem hl p hp e he

/-- What a function computes, handed on. -/
def evFnK {α : Type} (L : Lib) (d f : Nat) (res : List ResultVar) (c : Code) (ins : Fs) (rs : Sh) (k : rs.ty.den × ins.back.den → α) (x : ins.ty.den) : Option α :=
  (fun (p : AV × St) =>
    ev L (inPlace L d) f res c 0 (fun e st => match e with | .normal => ob (resAV L st res) fun v => ob (finish ins rs p.1 p.2.bl (resOne v) st) fun y => some (k y) | _ => none)
      (fun v st => ob (finish ins rs p.1 p.2.bl v st) fun y => some (k y)) ⟨initFr 0 p.1, p.2.bl, p.2.nb⟩) (ins.args x ⟨[], [], 0⟩)

theorem evFnK_eq {α : Type} {L : Lib} {d f : Nat} {res : List ResultVar} {c : Code} {ins : Fs} {rs : Sh} {k : rs.ty.den × ins.back.den → α} {x : ins.ty.den} :
    evFnK L d f res c ins rs k x = ob (evFn L d f res c ins rs x) fun y => some (k y) := by
  unfold evFnK evFn
  show ev L (inPlace L d) f res c 0 _ _ _ = ob (ev L (inPlace L d) f res c 0 _ _ _) _
  rw [← ev_nat (inPlace_nat d)]
  congr 1
  funext e s
  cases e with
  | normal => rw [ob_ob]
  | exit i => rfl
  | goto l => rfl

theorem entOk_k {P : Program} {L : Lib} (hL : LibOk P L) {d f : Nat} {fn : Func} {c : Code} (hf : P.funcs[f]? = some fn) (hb : fn.body = some c) (hname : (fn.name == "runtime.NumGoroutine") = false)
    (hdst : dstIn (fun t => Nat.blt t fn.ntmps) c = true) {ins : Fs} {rs : Sh} (hres : resOk rs = true) {α : Type} (g : ins.ty.den → Option α) (k : rs.ty.den × ins.back.den → α) (out : α → rs.ty.den × ins.back.den) (hout : ∀ p, out (k p) = p)
    (heq : ∀ x, evFnK L d f fn.results.toList c ins rs k x = g x) : EntOk P f ⟨ins, rs, α, g, fun _ y => out y, false⟩ := by
  refine entOk_of hL (d := d) (inlsOk hL d) hf hb hname hdst rfl hres ?_
  intro x y h
  have h : g x = some y := h
  rw [← heq x, evFnK_eq] at h
  obtain ⟨p, hp, h⟩ := ob_some h
  cases h
  rw [hp]
  exact congrArg some (hout p).symm

theorem lentOk_k {P : Program} {T : Nat → TI} {ents : List (Nat × List Ent)} {bodies : List (Nat × Func)} {f : Nat} {loops : List (Nat × List Lent)} (hL : LibOk P (mkLib T ents bodies f loops)) {d : Nat} {fn : Func} {c : Code} {n : Nat} {l : List (Nat × Code)}
    (hlp : loopsIn c n = l) (hl : LpsOk P fn (lkL loops) l) {slots : List Nat} {ali : List (Nat × Nat × List Nat)} {ins : Fs} {writes exits : List Nat} {rets : Bool} {rs : Sh} (hfit : aliFit c slots ali = true)
    (hdst : sall (fun t => has (sapp writes (Lent.writesOf ins slots)) t) (dstsOf c) = true) (hsl : once slots = true) (hsw : sall (fun t => cond (has writes t) false true) slots = true) (hres : resOk rs = true)
    (ln : Nat → ins.ty.den → Option (Out ins.back.den rs.ty.den exits rets)) (h0 : ∀ x, ln 0 x = none)
    (hs : ∀ k x, evLoop (mkLib T ents bodies f loops) d f fn.results.toList c n slots ali ins exits rets rs (ln k) x = ln (k + 1) x) (k : Nat) :
    LentOk P fn c ⟨slots, ins, writes, exits, rets, rs, ln k, ali, none⟩ :=
  lentOk_of hL (d := d) (inlsOk hL d) (loops_hyp hlp hl) (fun p hp rd h => by cases h) hfit hdst hsl hsw hres ln h0 (fun k x y h => (hs k x).trans h) k

def lkR (l : List (Nat × Nat × (St → Option (Bool × St)))) (g n : Nat) : Option (St → Option (Bool × St)) :=
  match l with
  | [] => none
  | p :: r => cond (Nat.beq p.1 g) (cond (Nat.beq p.2.1 n) (some p.2.2) (lkR r g n)) (lkR r g n)

def mkLibR (T : Nat → TI) (ents : List (Nat × List Ent)) (bodies : List (Nat × Func)) (f : Nat) (loops : List (Nat × List Lent)) (rngs : List (Nat × Nat × (St → Option (Bool × St)))) (frz : List Nat) (opts : List (Nat × Opt)) (alts : List Nat) : Lib :=
  ⟨T, fun g => lkL ents g, fun g => lk bodies g, fun g n => cond (Nat.beq g f) (lkL loops n) [], fun g n => lkR rngs g n, fun g => has frz g, fun g => lk opts g, fun g => cond (has alts g) (lkL ents g) []⟩

def OptsOk (P : Program) : List (Nat × Opt) → Prop
  | [] => True
  | p :: r => OptOk P p.1 p.2 ∧ OptsOk P r
theorem optsOk_mem {P : Program} : ∀ {l : List (Nat × Opt)} {g : Nat} {e : Opt}, OptsOk P l → lk l g = some e → OptOk P g e
  | [], g, e, _, h => by cases h
  | p :: r, g, e, ⟨h1, h2⟩, h => by
    rw [lk] at h
    cases hb : Nat.beq p.1 g with
    | true =>
      rw [hb] at h
      have := Nat.eq_of_beq_eq_true hb
      subst this
      cases h; exact h1
    | false =>
      rw [hb] at h
      exact optsOk_mem h2 h

/-- The loop over a function in block n of function g does this. -/
def RngAt (P : Program) (g n : Nat) (rd : St → Option (Bool × St)) : Prop := ∃ fn c0, P.funcs[g]? = some fn ∧ fn.body = some c0 ∧ ∀ c, (n, c) ∈ rngsIn c0 0 → RngOk P c rd
def RngsOk (P : Program) : List (Nat × Nat × (St → Option (Bool × St))) → Prop
  | [] => True
  | p :: r => RngAt P p.1 p.2.1 p.2.2 ∧ RngsOk P r

theorem rngsOk_mem {P : Program} : ∀ {l : List (Nat × Nat × (St → Option (Bool × St)))} {g n : Nat} {rd : St → Option (Bool × St)}, RngsOk P l → lkR l g n = some rd → RngAt P g n rd
  | [], g, n, rd, _, h => by cases h
  | p :: r, g, n, rd, ⟨h1, h2⟩, h => by
    rw [lkR] at h
    cases hb : Nat.beq p.1 g with
    | true =>
      rw [hb] at h
      cases hc : Nat.beq p.2.1 n with
      | true =>
        rw [hc] at h
        have e1 := Nat.eq_of_beq_eq_true hb
        have e2 := Nat.eq_of_beq_eq_true hc
        cases h
        rw [← e1, ← e2]; exact h1
      | false => rw [hc] at h; exact rngsOk_mem h2 h
    | false => rw [hb] at h; exact rngsOk_mem h2 h

theorem libOk_mkR {P : Program} (order : P.follows .mixedOrders = true) {T : Nat → TI} (hT : ∀ t, TiOk P T t) {ents : List (Nat × List Ent)} (he : EntsOk P ents) {bodies : List (Nat × Func)} (hb : BodsOk P bodies)
    {f : Nat} {fn : Func} {c : Code} (hf : P.funcs[f]? = some fn) (hc : fn.body = some c) {loops : List (Nat × List Lent)} {l : List (Nat × Code)} (hlp : loopsIn c 0 = l) (hl : LpsOk P fn (lkL loops) l)
    {rngs : List (Nat × Nat × (St → Option (Bool × St)))} (hr : RngsOk P rngs) {frz : List Nat} {opts : List (Nat × Opt)} (ho : OptsOk P opts) {alts : List Nat} : LibOk P (mkLibR T ents bodies f loops rngs frz opts alts) where
  order := order
  ti := hT
  ent g e h := entsOk_mem he h
  body g fn' h := bodsOk_mem hb h
  loop := (libOk_mk order hT he hb hf hc hlp hl).loop
  rng g n rd fn' c0 c' h hg hc' hin := by
    obtain ⟨fn1, c1, e1, e2, h1⟩ := rngsOk_mem hr h
    rw [hg] at e1; cases e1
    rw [hc'] at e2; cases e2
    exact h1 c' hin
  opt g e h := optsOk_mem ho h
  alt g e h := by
    have h : e ∈ cond (has alts g) (lkL ents g) [] := h
    cases hb : has alts g with
    | true => rw [hb] at h; exact entsOk_mem he h
    | false => rw [hb] at h; cases h

theorem lentOk_kR {P : Program} {T : Nat → TI} {ents : List (Nat × List Ent)} {bodies : List (Nat × Func)} {f : Nat} {loops : List (Nat × List Lent)} {rngs : List (Nat × Nat × (St → Option (Bool × St)))} {frz : List Nat} {opts : List (Nat × Opt)} {alts : List Nat} (hL : LibOk P (mkLibR T ents bodies f loops rngs frz opts alts)) {d : Nat} {fn : Func} {c : Code} {n : Nat} {l : List (Nat × Code)}
    (hf : P.funcs[f]? = some fn) (hb : fn.body = some (codeOf fn)) (hrl : rngsIn c n = [] ∨ rngsIn c n = rngsIn (codeOf fn) 0)
    (hlp : loopsIn c n = l) (hl : LpsOk P fn (lkL loops) l) {slots : List Nat} {ali : List (Nat × Nat × List Nat)} {ins : Fs} {writes exits : List Nat} {rets : Bool} {rs : Sh} (hfit : aliFit c slots ali = true)
    (hdst : sall (fun t => has (sapp writes (Lent.writesOf ins slots)) t) (dstsOf c) = true) (hsl : once slots = true) (hsw : sall (fun t => cond (has writes t) false true) slots = true) (hres : resOk rs = true)
    (ln : Nat → ins.ty.den → Option (Out ins.back.den rs.ty.den exits rets)) (h0 : ∀ x, ln 0 x = none)
    (hs : ∀ k x, evLoop (mkLibR T ents bodies f loops rngs frz opts alts) d f fn.results.toList c n slots ali ins exits rets rs (ln k) x = ln (k + 1) x) (k : Nat) :
    LentOk P fn c ⟨slots, ins, writes, exits, rets, rs, ln k, ali, none⟩ :=
  lentOk_of hL (d := d) (inlsOk hL d) (loops_hyp (T := T) (ents := ents) (bodies := bodies) hlp hl) (fun p hp rd h => by
    rcases hrl with e | e
    · rw [e] at hp; cases hp
    · rw [e] at hp; exact hL.rng f p.1 rd fn (codeOf fn) p.2 h hf hb hp) hfit hdst hsl hsw hres ln h0 (fun k x y h => (hs k x).trans h) k

theorem ent_none {P : Program} {f : Nat} {fn : Func} {c : Code} (hf : P.funcs[f]? = some fn) (hb : fn.body = some c) (hname : (fn.name == "runtime.NumGoroutine") = false) {e : Ent} (h : ∀ x, e.fn x = none) : EntOk P f e :=
  ⟨⟨fn, c, hf, hb, hname⟩, fun S w vs x bs y _ _ hy => by rw [h] at hy; cases hy⟩
theorem opt_none {P : Program} {f : Nat} {fn : Func} {c : Code} (hf : P.funcs[f]? = some fn) (hb : fn.body = some c) (hname : (fn.name == "runtime.NumGoroutine") = false) {e : Opt} (h : ∀ x, e.fn x = none) : OptOk P f e :=
  ⟨⟨fn, c, hf, hb, hname⟩, fun S w vs x bs y _ _ hy => by rw [h] at hy; cases hy⟩
theorem optOk_k {P : Program} {L : Lib} (hL : LibOk P L) {d f : Nat} {fn : Func} {c : Code} (hf : P.funcs[f]? = some fn) (hb : fn.body = some c) (hname : (fn.name == "runtime.NumGoroutine") = false)
    (hdst : dstIn (fun t => Nat.blt t fn.ntmps) c = true) {ins : Fs} {et : Ty} (g : ins.ty.den → Option (Option (List et.den)))
    (heq : ∀ x, evFnO L d f fn.results.toList c ins et x = g x) : OptOk P f ⟨ins, et, g⟩ :=
  optOk_of hL (d := d) (inlsOk hL d) hf hb hname hdst fun x y h => (heq x).trans h
end Go.Pv

/- A slice held against nil, as slices.Clone does: both answers come to the same datum. -/
set_option linter.unusedVariables false
set_option linter.unusedSimpArgs false
namespace Go.Pv

section
variable {P : Program} {B : Base} {D : Nat → Bool} {μ : Nat → Option At} {S : Nat → Prop} {w : World} {a : Act}

theorem run_eqnil {T e : TypeId} (hT : P.underlying T = some (.slice e)) (A : Option Addr) (n cap : Nat) (p q : Operand) :
    (eqGuard .eql T p q (.slice A n cap) (.slice none 0 0)).run P w = .ok () w ∧ (binOp .eql T (.slice A n cap) (.slice none 0 0)).run P w = .ok (.bool A.isNone) w := by
  constructor
  · simp [eqGuard]
  · have key : ∀ d, (Op.equalIn (d + 1) T (.slice A n cap) (.slice none 0 0)).run P w = .ok A.isNone w := by
      intro d
      cases A with
      | none => simp [Op.equalIn, underlying, hT]
      | some x => simp [Op.equalIn, underlying, hT]
    have h2 : (Op.equal T (.slice A n cap) (.slice none 0 0)).run P w = .ok A.isNone w := key 9999
    simp [binOp, h2]

/-- The region that asks whether the slice in slot 0 is nil. -/
theorem nilcmp_wp {R : Type} {L : Lib} (hL : LibOk P L) (hD : ∀ t, D t = true → t < B.a.tmps.size) {id T e0 ty1 ty2 ty3 : Nat} {pos1 pos2 : String} {aft1 aft2 : Array Edge} (hT : P.underlying T = some (.slice e0)) (h3 : D 3 = true) (h4 : D 4 = true)
    {st : St} {e : Ty} {xs : List e.den} (hn : Now B D μ S w st a) (h0 : lk st.fr 0 = some (.dat (.sl e) xs)) {Q : Exit → Act → World → Prop}
    (hQ : ∀ b, (b = true → xs = []) → ∀ μ' S' w' a', Now B D μ' S' w' ((st.set 3 (.dat (.sl e) xs)).set 4 (.dat .bool b)) a' → Q .normal a' w') :
    (Code.region id #[⟨some 3, .move (.tmp 0), ty1, pos1, aft1, none⟩, ⟨some 4, .binOp .eql T (.tmp 3) (.const (.slice none 0 0)) ty3, ty2, pos2, aft2, none⟩] false).wp P Q a w := by
  refine wp_region ?_
  show wpOps P _ Q [0, 1] a w
  rw [wpOps_cons]
  refine guarded_ok (R := St) (L := L) (inl := inPlace L 0) hL (inlsOk hL 0).ok hD (i := 0) (o := ⟨some 3, .move (.tmp 0), ty1, pos1, aft1, none⟩) rfl (fun d hd => by cases hd; exact h3) (K := some) (r := st.set 3 (.dat (.sl e) xs)) ?_ hn ?_
  · unfold guarded doOp opAV
    simp only [isCall]
    have : st.any (.tmp 0) = some (.dat (.sl e) xs) := by
      show known (lk st.fr 0) = _
      rw [h0]; rfl
    show (ob (st.any (.tmp 0)) fun v => some (st.put (some 3) v)) = _
    rw [this]
    rfl
  · intro μ' S' w' st' a' hn' hst
    cases hst
    rw [wpOps_cons]
    have hv := hn'.fr.slot 3 (.dat (.sl e) xs) (by rw [St.set, lk_cons, if_pos rfl])
    obtain ⟨cs, hcs⟩ : ∃ A cap, a'.tmps.getD 3 undef = .slice A xs.length cap ∧ (A = none → xs = []) := by
      obtain ⟨A, cap, e1, _, e3⟩ := (show Rep S' w' (.sl e) xs [a'.tmps.getD 3 undef] from hv)
      refine ⟨A, cap, by simpa using e1, fun hA => ?_⟩
      cases xs with
      | nil => rfl
      | cons x r =>
        obtain ⟨b, o, ds, e4, _⟩ := e3 (by simp)
        rw [hA] at e4; cases e4
    obtain ⟨cap, hval, hnil⟩ := hcs
    have hi1 : (#[⟨some 3, .move (.tmp 0), ty1, pos1, aft1, none⟩, ⟨some 4, .binOp .eql T (.tmp 3) (.const (.slice none 0 0)) ty3, ty2, pos2, aft2, none⟩] : Array Oper)[1]? = some ⟨some 4, .binOp .eql T (.tmp 3) (.const (.slice none 0 0)) ty3, ty2, pos2, aft2, none⟩ := rfl
    unfold wpOp
    rw [hi1]
    dsimp only
    have hw : ∀ y, Region.wanted ⟨some 4, .binOp .eql T (.tmp 3) (.const (.slice none 0 0)) ty3, ty2, pos2, aft2, none⟩ y = true := fun y => by simp [Region.wanted]
    rw [if_pos (hw _)]
    refine .inl ?_
    unfold Oper.wp
    have hrun : (execOp a'.eval ⟨some 4, .binOp .eql T (.tmp 3) (.const (.slice none 0 0)) ty3, ty2, pos2, aft2, none⟩).run P w' = .ok (.value (.bool cs.isNone)) w' := by
      have he : a'.eval (.tmp 3) = .slice cs xs.length cap := hval
      have hc : a'.eval (.const (.slice none 0 0)) = .slice none 0 0 := rfl
      obtain ⟨g1, g2⟩ := run_eqnil (w := w') hT cs xs.length cap (.tmp 3) (.const (.slice none 0 0))
      simp [execOp, he, hc, g1, g2]
    rw [hrun]
    show Q .normal (a'.put (some 4) (.bool cs.isNone)) w'
    refine hQ cs.isNone (fun hb => hnil (by simpa using hb)) μ' S' w' _ ?_
    exact hn'.put hD (dst := some 4) (fun d hd => by cases hd; exact h4) (x := .dat .bool cs.isNone) (v := .bool cs.isNone) (show RV μ' S' w' (.dat .bool cs.isNone) (.bool cs.isNone) from by
      show Rep S' w' .bool cs.isNone [.bool cs.isNone]
      rfl)

/-- slices.Clone: a copy, or nil for nil. -/
theorem clone_ok {L : Lib} (hL : LibOk P L) {f : Nat} {fn : Func} {R0 C Y : Code} {id T e0 ty1 ty2 ty3 : Nat} {pos1 pos2 : String} {aft1 aft2 : Array Edge}
    (hf : P.funcs[f]? = some fn) (hb : fn.body = some (.seq R0 (.seq (.seq (.region id #[⟨some 3, .move (.tmp 0), ty1, pos1, aft1, none⟩, ⟨some 4, .binOp .eql T (.tmp 3) (.const (.slice none 0 0)) ty3, ty2, pos2, aft2, none⟩] false) C) Y)))
    (hname : (fn.name == "runtime.NumGoroutine") = false) (hdst : dstIn (fun t => Nat.blt t fn.ntmps) (codeOf fn) = true) (hlps : loopsIn (codeOf fn) 0 = []) (hT : P.underlying T = some (.slice e0)) {e : Ty} {rs : Sh} (hres : resOk rs = true) {α : Type}
    (g : List e.den → Option α) (out : α → rs.ty.den × Unit)
    (h0 : ∀ xs, ev L (inPlace L 1) f fn.results.toList R0 0 (fun ex st => match ex with | .normal => some st | _ => none) (fun _ _ => none) ⟨[(0, .dat (.sl e) xs)], [], 0⟩ = some ⟨[(2, .nil), (0, .dat (.sl e) xs)], [], 0⟩)
    (h1 : ∀ xs b y, g xs = some y → (b = true → xs = []) → ev L (inPlace L 1) f fn.results.toList (.seq C Y) 0
      (fun ex st => match ex with | .normal => ob (resAV L st fn.results.toList) fun v => finish [(.dat (.sl e), false)] rs (.cons (.dat (.sl e) xs) .un) [] (resOne v) st | _ => none)
      (fun v st => finish [(.dat (.sl e), false)] rs (.cons (.dat (.sl e) xs) .un) [] v st)
      ⟨[(4, .dat .bool b), (3, .dat (.sl e) xs), (2, .nil), (0, .dat (.sl e) xs)], [], 0⟩ = some (out y)) (hrng : ∀ g n, L.rng g n = none := by exact fun _ _ => rfl) :
    EntOk P f ⟨[(.dat (.sl e), false)], rs, α, fun x => g x.1, fun _ y => out y, false⟩ := by
  refine entOk_wp hL hf hb hname rfl hres ?_
  intro x y hy B μ S w a hTT hD hn
  have hcode : codeOf fn = .seq R0 (.seq (.seq (.region id #[⟨some 3, .move (.tmp 0), ty1, pos1, aft1, none⟩, ⟨some 4, .binOp .eql T (.tmp 3) (.const (.slice none 0 0)) ty3, ty2, pos2, aft2, none⟩] false) C) Y) := by
    unfold codeOf; rw [hb]
  have hd := sall_iff.1 hdst
  rw [hcode] at hd hlps
  have hdR0 : ∀ t ∈ dstsOf R0, Nat.blt t fn.ntmps = true := fun t ht => hd t (by simp [dstsOf, sapp_eq, ht])
  have hdC : ∀ t ∈ dstsOf (.seq C Y), Nat.blt t fn.ntmps = true := fun t ht => hd t (by
    simp only [dstsOf, sapp_eq, List.mem_append] at ht ⊢
    rcases ht with ht | ht
    · exact .inr (.inl (.inr ht))
    · exact .inr (.inr ht))
  have hd3 : Nat.blt 3 fn.ntmps = true := hd 3 (by simp [dstsOf, sapp_eq, opsDsts, skeep])
  have hd4 : Nat.blt 4 fn.ntmps = true := hd 4 (by simp [dstsOf, sapp_eq, opsDsts, skeep])
  have hl : ∀ c ∈ [R0, C, Y], loopsIn c 0 = [] := by
    simp only [loopsIn, sapp_eq, List.append_eq_nil_iff] at hlps
    intro c hc
    simp only [List.mem_cons, List.not_mem_nil, or_false] at hc
    rcases hc with rfl | rfl | rfl
    · exact hlps.1
    · exact hlps.2.1.2
    · exact hlps.2.2
  have hnone : ∀ c ∈ [R0, C, Y], ∀ p ∈ loopsIn c 0, ∀ e' ∈ L.loop f p.1, LentOk P fn p.2 e' := fun c hc p hp => by rw [hl c hc] at hp; cases hp
  obtain ⟨xs, u⟩ := x
  have hn : Now B (fun t => Nat.blt t fn.ntmps) μ S w ⟨[(0, .dat (.sl e) xs)], [], 0⟩ a := hn
  refine wp_seq (wp_mono (ev_ok hL (inlsOk hL 1) hTT hD (h0 xs) hn hdR0 (hnone R0 (by simp)) (fun p hp rd h => by rw [hrng] at h; cases h)) ?_)
  intro ex a1 w1 hq
  cases ex with
  | normal =>
    obtain ⟨μ1, S1, st1, hn1, hk⟩ := hq
    simp only [Option.some.injEq] at hk
    subst hk
    refine wp_seq ?_
    refine wp_seq ?_
    refine nilcmp_wp (R := St) hL hD hT hd3 hd4 hn1 (e := e) (xs := xs) rfl ?_
    intro b hbx μ2 S2 w2 a2 hn2
    have hev := h1 xs b y hy hbx
    rw [ev] at hev
    refine wp_mono (ev_ok hL (inlsOk hL 1) hTT hD (c := C) hev hn2 (fun t ht => hdC t (by simp [dstsOf, sapp_eq, ht])) (hnone C (by simp)) (fun p hp rd h => by rw [hrng] at h; cases h)) ?_
    intro ex a3 w3 hq
    cases ex with
    | normal =>
      obtain ⟨μ3, S3, st3, hn3, hk⟩ := hq
      exact ev_ok hL (inlsOk hL 1) hTT hD (c := Y) hk hn3 (fun t ht => hdC t (by simp [dstsOf, sapp_eq, ht])) (hnone Y (by simp)) (fun p hp rd h => by rw [hrng] at h; cases h)
    | exit i => exact hq
    | ret => exact hq
    | goto l => exact hq
    | panic c => exact hq
    | outgrown => exact hq
  | exit i => obtain ⟨_, _, _, _, hk⟩ := hq; cases hk
  | ret => obtain ⟨_, _, _, _, _, _, _, _, hk, _⟩ := hq; cases hk
  | goto l => (obtain ⟨_, _, _, _, hk⟩ := hq; exact absurd (show none = some _ from hk) (by simp))
  | panic c => exact hq
  | outgrown => exact hq

end
end Go.Pv

/- Data that come in, and the frame of a law. -/
set_option linter.unusedVariables false
set_option linter.unusedSimpArgs false
namespace Go.Pv
open Go.ChangeShapes Go.WideShapes Go.RowKit

/-- What a datum that came in obeys: numbers are of their kinds, nothing is too long. -/
def Ty.wf : (t : Ty) → t.den → Prop
  | .int k, n => (Lit.int k n).wf = true
  | .bool, _ => True
  | .str, s => s.size ≤ maxLen
  | .sl e, xs => xs.length ≤ maxLen ∧ ∀ x ∈ xs, e.wf x
  | .arr n e, xs => xs.length = n ∧ ∀ x ∈ xs, e.wf x
  | .pr a b, x => a.wf x.1 ∧ b.wf x.2
  | .un, _ => True
  | .err, _ => True
  | .np, _ => True

def HasRep (S : Nat → Prop) (W : World) (t : Ty) (cs : List Value) : Prop := ∃ x : t.den, Rep S W t x cs ∧ t.wf x

theorem HasRep.length {S : Nat → Prop} {W : World} {t : Ty} {cs : List Value} (h : HasRep S W t cs) : cs.length = t.size := by
  obtain ⟨x, h, _⟩ := h
  exact Rep.length h

theorem chunks {α : Type} (cs : List α) (sz : Nat) : ∀ n, ((List.range n).map fun i => (cs.drop (i * sz)).take sz).flatten = cs.take (n * sz)
  | 0 => by simp
  | n + 1 => by
    rw [List.range_succ, List.map_append, List.flatten_append, chunks cs sz n]
    simp only [List.map_cons, List.map_nil, List.flatten_cons, List.flatten_nil, List.append_nil]
    rw [Nat.add_mul, Nat.one_mul, List.take_add]

theorem row_of {S : Nat → Prop} {W : World} {e : Ty} (c : Nat → List Value) : ∀ {n : Nat}, (∀ i, i < n → HasRep S W e (c i)) →
    ∃ xs : List e.den, xs.length = n ∧ RepRow (Rep S W e) xs (((List.range n).map c).flatten) ∧ ∀ x ∈ xs, e.wf x
  | 0, _ => ⟨[], rfl, rfl, fun x hx => by cases hx⟩
  | n + 1, h => by
    obtain ⟨xs, h1, h2, h3⟩ := row_of c fun i hi => h i (Nat.lt_succ_of_lt hi)
    obtain ⟨x, hx, hw⟩ := h n (Nat.lt_succ_self n)
    refine ⟨xs ++ [x], by simp [h1], ?_, ?_⟩
    · rw [List.range_succ, List.map_append, List.flatten_append]
      refine RepRow.append h2 ⟨c n, [], ?_, hx, rfl⟩
      simp
    · intro y hy
      rcases List.mem_append.1 hy with hy | hy
      · exact h3 y hy
      · rw [List.mem_singleton.1 hy]; exact hw

section
variable {H : Type} {enc : TypeId × Value → H} {P : Program} {W : World} {tl : List (Nat × TE)}

theorem cells_rows {b o sz : Nat} (c : Nat → List Value) (hl : ∀ i, (c i).length = sz) : ∀ {n : Nat}, (∀ i, i < n → ∀ r, r < sz → W.cell? ⟨b, o + (i * sz + r), none⟩ = (c i)[r]?) →
    CellsAt W b o (((List.range n).map c).flatten)
  | 0, _ => fun j d hd => by simp at hd
  | n + 1, h => by
    have ih := cells_rows (b := b) (o := o) c hl (n := n) fun i hi => h i (Nat.lt_succ_of_lt hi)
    intro j d hd
    rw [List.range_succ, List.map_append, List.flatten_append] at hd
    have hlen : ∀ m, (((List.range m).map c).flatten).length = m * sz := by
      intro m
      induction m with
      | zero => simp
      | succ m ih => rw [List.range_succ, List.map_append, List.flatten_append, List.length_append, ih]; simp [hl, Nat.add_mul]
    by_cases hj : j < n * sz
    · rw [List.getElem?_append_left (by rw [hlen]; exact hj)] at hd
      exact ih j d hd
    · rw [List.getElem?_append_right (by rw [hlen]; omega), hlen] at hd
      simp only [List.map_cons, List.map_nil, List.flatten_cons, List.flatten_nil, List.append_nil] at hd
      have hr : j - n * sz < sz := by
        have := (List.getElem?_eq_some_iff.1 hd).1
        rw [hl] at this
        exact this
      have := h n (Nat.lt_succ_self n) (j - n * sz) hr
      rw [show n * sz + (j - n * sz) = j by omega] at this
      rw [this]; exact hd

theorem cellsOf_te {t : Nat} {e : TE} (h : TeOk P (teAt tl) t e) : P.cellsOf t = e.size := by
  obtain ⟨i, d, hi, _, _, _, hs, _⟩ := h.ex
  simp [Program.cellsOf, hi, hs]

theorem pure_te (htl : tlOk P tl tl = true) {t : Nat} (hp : (teAt tl t).pure = true) : TeOk P (teAt tl) t (teAt tl t) := by
  rcases teAt_ok htl t with h | h
  · rw [h] at hp; cases hp
  · exact h

theorem tail_rep {S : Nat → Prop} {cs : List Value} : ∀ {fs : List (Nat × Nat)} {o n : Nat}, inLine (teAt tl) o fs = some n →
    (∀ p ∈ fs, HasRep S W (teAt tl p.2).ty ((cs.drop p.1).take (teAt tl p.2).size)) → o ≤ n ∧ HasRep S W (tailTy (teAt tl) fs) ((cs.drop o).take (n - o))
  | [], o, n, h, _ => by
    rw [inLine] at h; cases h
    refine ⟨Nat.le_refl _, (), ?_, trivial⟩
    show (cs.drop o).take (o - o) = []
    simp
  | [f], o, n, h, hf => by
    rw [inLine, inLine] at h
    obtain ⟨h1, h2⟩ := condT h
    rw [Bool.and_eq_true] at h1
    have h1 := beq_true h1.1
    cases h2
    have := hf f (by simp)
    rw [h1] at this
    refine ⟨Nat.le_add_right _ _, ?_⟩
    show HasRep S W (teAt tl f.2).ty ((cs.drop o).take (o + (teAt tl f.2).size - o))
    rw [show o + (teAt tl f.2).size - o = (teAt tl f.2).size by omega]
    exact this
  | f :: g :: r, o, n, h, hf => by
    rw [inLine] at h
    obtain ⟨h1, h2⟩ := condT h
    rw [Bool.and_eq_true] at h1
    have h1 := beq_true h1.1
    have hh := hf f (by simp)
    rw [h1] at hh
    obtain ⟨hle, y, hy, hyw⟩ := tail_rep h2 fun p hp => hf p (by simp only [List.mem_cons] at hp ⊢; exact .inr hp)
    have hle : o + (teAt tl f.2).size ≤ n := hle
    obtain ⟨x, hx, hxw⟩ := hh
    refine ⟨by omega, (x, y), ⟨_, _, ?_, hx, hy⟩, hxw, hyw⟩
    have : n - o = (teAt tl f.2).size + (n - (o + (teAt tl f.2).size)) := by omega
    rw [this, List.take_add, List.drop_drop]
    rfl

theorem trod_rep (htl : tlOk P tl tl = true) : ∀ (fuel t : Nat) (cs : List Value) (x : DataW H × List MemPlace), (teAt tl t).pure = true → DataW.trod enc P W 0 (fun _ => true) true fuel t cs = some x →
    HasRep (fun b => b < W.heap.size) W (teAt tl t).ty cs := by
  intro fuel
  induction fuel with
  | zero => intro t cs x _ h; simp [DataW.trod] at h
  | succ n ih =>
    intro t cs x hp h
    have hok := pure_te htl hp
    obtain ⟨i, d, hi, hd, hs, hb, his, hib, htd, hag, _, hz⟩ := hok.ex
    obtain ⟨p1, p2, p3, p4, p5⟩ := hok.pure hp
    have hcell := cellsOf_te hok
    generalize hE : teAt tl t = e at *
    cases hk : e.k with
    | plain =>
      rw [hk] at htd
      cases hty : e.ty with
      | int k =>
        rw [hty] at htd
        cases d with
        | int k' =>
          rw [← ksame_eq htd] at hd
          obtain ⟨m, e1, _, e2⟩ := DataW.trod_int hd h
          exact ⟨m, e1, e2⟩
        | _ => cases htd
      | bool =>
        rw [hty] at htd
        cases d with
        | bool =>
          obtain ⟨m, e1, _⟩ := DataW.trod_bool hd h
          exact ⟨m, e1, trivial⟩
        | _ => cases htd
      | str =>
        rw [hty] at htd
        cases d with
        | string =>
          obtain ⟨m, e1, _, e2⟩ := DataW.trod_string hd h
          exact ⟨m, e1, e2⟩
        | _ => cases htd
      | _ => rw [hty] at htd; cases d <;> cases htd
    | slice y =>
      rw [hk] at htd
      unfold pureB at p5
      rw [hk] at p5
      simp only [Bool.and_eq_true] at p5
      obtain ⟨py, ety⟩ := p5
      rw [tyB_eq ety]
      have hy := pure_te htl py
      cases d with
      | slice y' =>
        have : y = y' := beq_true (by cases hty : e.ty <;> rw [hty] at htd <;> exact htd)
        subst this
        have hcy := cellsOf_te hy
        obtain ⟨q1, q2, q3, q4, q5⟩ := hy.pure py
        rcases DataW.trod_slice hd h with ⟨hcs, _⟩ | ⟨a, len, cap, elems, rest, n', hn', hcs, _, _, hl, hm, hlen, hel, _, _⟩
        · exact ⟨[], ⟨none, 0, hcs, Nat.le_refl _, fun hh => absurd hh (Nat.lt_irrefl 0)⟩, Nat.zero_le _, fun x hx => by cases hx⟩
        · have hnn : n = n' := by omega
          subst hnn
          rw [hcy] at hel
          have hel' : ∀ i, i < len → ∃ cs', W.cells? 0 (a.add (i * (teAt tl y).size)) (teAt tl y).size = some cs' ∧ HasRep (fun b => b < W.heap.size) W (teAt tl y).ty cs' := by
            intro i hi
            have h1 := hel i hi
            have h2 : elems[i]? = some (elems[i]'(by omega)) := List.getElem?_eq_getElem (by omega)
            rw [h2] at h1
            obtain ⟨cs', g1, g2⟩ := Option.bind_eq_some_iff.1 h1
            exact ⟨cs', g1, ih _ _ _ py g2⟩
          -- the elements' cells
          let c : Nat → List Value := fun i => if hi : i < len then (hel' i hi).choose else List.replicate (teAt tl y).size undef
          have hc : ∀ i, i < len → W.cells? 0 (a.add (i * (teAt tl y).size)) (teAt tl y).size = some (c i) ∧ HasRep (fun b => b < W.heap.size) W (teAt tl y).ty (c i) := by
            intro i hi
            have := (hel' i hi).choose_spec
            simp only [c, dif_pos hi]
            exact this
          have hcl : ∀ i, (c i).length = (teAt tl y).size := by
            intro i
            by_cases hi : i < len
            · exact (hc i hi).2.length.trans q2
            · simp only [c, dif_neg hi, List.length_replicate]
          obtain ⟨xs, x1, x2, x3⟩ := row_of (S := fun b => b < W.heap.size) (W := W) (e := (teAt tl y).ty) c (n := len) fun i hi => (hc i hi).2
          refine ⟨xs, ⟨some a, cap, by rw [x1]; exact hcs, by omega, fun h0 => ?_⟩, by omega, x3⟩
          have hsz : (teAt tl y).size ≠ 0 := by
            obtain ⟨_, _, _, _, hh, _⟩ := hy.ex
            exact hh
          have h00 := (World.cells?_some (hc 0 (by omega)).1).2.2 0 (by omega)
          have hc0 : ∃ v, W.cell? a = some v := by
            have : ((c 0)[0]?) = some ((c 0)[0]'(by rw [hcl]; omega)) := List.getElem?_eq_getElem (by rw [hcl]; omega)
            rw [this] at h00
            exact ⟨_, by simpa [Addr.add] using h00⟩
          obtain ⟨v, hv⟩ := hc0
          have hspot : a.spot = none ∧ a.block < W.heap.size := by
            unfold World.cell? at hv
            split at hv
            · rename_i heq
              refine ⟨?_, (Array.getElem?_eq_some_iff.1 heq).1⟩
              cases hs : a.spot with
              | none => rfl
              | some z => rw [hs] at hv; cases hv
            · cases hv
          obtain ⟨ab, ao, asp⟩ := a
          obtain ⟨rfl, hlt⟩ := hspot
          refine ⟨ab, ao, _, rfl, hlt, cells_rows c hcl (n := len) ?_, x2⟩
          intro i hi r hr
          have := (World.cells?_some (hc i hi).1).2.2 r hr
          rw [← this]
          congr 1
          unfold Addr.add
          by_cases h1 : i * (teAt tl y).size = 0 <;> by_cases h2 : r = 0 <;> simp [h1, h2, Nat.add_assoc]
      | _ => cases hty : e.ty <;> rw [hty] at htd <;> cases htd
    | array n' y =>
      rw [hk] at htd
      unfold pureB at p5
      rw [hk] at p5
      simp only [Bool.and_eq_true] at p5
      obtain ⟨py, ety⟩ := p5
      have hy := pure_te htl py
      cases d with
      | array m y' =>
        have : n' = m ∧ y = y' := by
          have : (Nat.beq n' m && Nat.beq y y') = true := by cases hty : e.ty <;> rw [hty] at htd <;> exact htd
          rw [Bool.and_eq_true] at this
          exact ⟨beq_true this.1, beq_true this.2⟩
        obtain ⟨rfl, rfl⟩ := this
        have hcy := cellsOf_te hy
        obtain ⟨q1, q2, q3, q4, q5⟩ := hy.pure py
        obtain ⟨xs, m, hm, _, hl, hxl, hel⟩ := DataW.trod_array hd h
        have hnn : n = m := by omega
        subst hnn
        rw [hcy] at hel
        have hc : ∀ i, i < n' → HasRep (fun b => b < W.heap.size) W (teAt tl y).ty ((cs.drop (i * (teAt tl y).size)).take (teAt tl y).size) := by
          intro i hi
          have h1 := hel i hi
          rw [List.getElem?_eq_getElem (by omega)] at h1
          exact ih _ _ _ py h1
        obtain ⟨ys, x1, x2, x3⟩ := row_of (S := fun b => b < W.heap.size) (W := W) (e := (teAt tl y).ty) _ (n := n') hc
        have hsz : e.ty.size = n' * (teAt tl y).size := by
          rw [tyB_eq ety]
          show Nat.mul n' (teAt tl y).ty.size = _
          rw [q2]; rfl
        rw [chunks, List.take_of_length_le (by rw [hl, hcell, ← p2, hsz]; exact Nat.le_refl _)] at x2
        rw [tyB_eq ety]
        exact ⟨ys, ⟨x1, x2⟩, x1, x3⟩
      | _ => cases hty : e.ty <;> rw [hty] at htd <;> cases htd
    | struct fs =>
      rw [hk] at htd
      unfold pureB at p5
      rw [hk] at p5
      simp only [Bool.and_eq_true] at p5
      obtain ⟨ety, pin⟩ := p5
      cases d with
      | struct g =>
        have htd' : fsB (g.toList.map fun f => (f.offset, f.type)) fs = true := by cases hty : e.ty <;> rw [hty] at htd <;> exact htd
        have hfs := fsB_eq htd'
        obtain ⟨xs, m, hm, _, hl, hxl, hel⟩ := DataW.trod_struct hd h
        have hnn : n = m := by omega
        subst hnn
        cases hin : inLine (teAt tl) 0 fs with
        | none => rw [hin] at pin; cases pin
        | some N =>
          rw [hin] at pin
          have hN : N = e.size := beq_true pin
          have hpure : ∀ {l : List (Nat × Nat)} {o N : Nat}, inLine (teAt tl) o l = some N → ∀ p ∈ l, (teAt tl p.2).pure = true := by
            intro l
            induction l with
            | nil => intro o N _ p hp; cases hp
            | cons f r ih =>
              intro o N hh p hp
              rw [inLine] at hh
              obtain ⟨h1, h2⟩ := condT hh
              rw [Bool.and_eq_true] at h1
              rcases List.mem_cons.1 hp with rfl | hp
              · exact h1.2
              · exact ih h2 p hp
          have hparts : ∀ p ∈ fs, HasRep (fun b => b < W.heap.size) W (teAt tl p.2).ty ((cs.drop p.1).take (teAt tl p.2).size) := by
            intro p hp
            have hpp := hpure hin p hp
            rw [← hfs] at hp
            obtain ⟨f, hf, rfl⟩ := List.mem_map.1 hp
            obtain ⟨i, hi, hfi⟩ := List.mem_iff_getElem.1 hf
            have h1 := hel i f (by rw [← hfi]; simp)
            rw [List.getElem?_eq_getElem (by rw [hxl]; simpa using hi), cellsOf_te (pure_te htl hpp)] at h1
            exact ih _ _ _ hpp h1
          obtain ⟨_, hr⟩ := tail_rep (cs := cs) hin hparts
          have hfull : (cs.drop 0).take (N - 0) = cs := by
            rw [List.drop_zero, List.take_of_length_le (by rw [hl, hcell, hN]; exact Nat.le_refl _)]
          rw [hfull] at hr
          rw [tyB_eq ety]
          match fs, hr with
          | [], hr => exact hr
          | [f], ⟨x, hx, hw⟩ => exact ⟨(x, ()), ⟨cs, [], by simp, hx, rfl⟩, hw, trivial⟩
          | f :: f' :: r, hr => exact hr
      | _ => cases hty : e.ty <;> rw [hty] at htd <;> cases htd
    | map k v =>
      unfold pureB at p5
      rw [hk] at p5
      cases p5
    | other =>
      unfold pureB at p5
      rw [hk] at p5
      cases p5
    | iface =>
      unfold pureB at p5
      rw [hk] at p5
      cases p5
    | ptr _ =>
      unfold pureB at p5
      rw [hk] at p5
      cases p5

/-- A whole value. -/
theorem val_rep (htl : tlOk P tl tl = true) {t : Nat} {v : Value} {d : DataW H} {ps : List MemPlace} {base : Nat} (hp : (teAt tl t).pure = true) (hv : Value.okWide P W .any base t v) (h : DataW.Trod enc P W 0 (fun _ => true) true t v d ps) :
    ∃ x : (teAt tl t).ty.den, ValOf (fun b => b < W.heap.size) W (teAt tl t).ty x v ∧ (teAt tl t).ty.wf x := by
  obtain ⟨fuel, h⟩ := h
  obtain ⟨x, hx, hw⟩ := trod_rep htl fuel t _ _ hp h
  refine ⟨x, ?_, hw⟩
  have hok := pure_te htl hp
  obtain ⟨i, d', hi, hd, hs, hb, his, hib, htd, hag, _, hz⟩ := hok.ex
  obtain ⟨p1, p2, p3, p4, p5⟩ := hok.pure hp
  unfold ValOf
  rw [p3, ← hag]
  cases d' with
  | struct fs =>
    simp only [Value.okWide, hd] at hv
    obtain ⟨cs, rfl, _⟩ := hv
    exact ⟨cs.toList, rfl, hx⟩
  | array m y =>
    simp only [Value.okWide, hd] at hv
    obtain ⟨cs, rfl, _⟩ := hv
    exact ⟨cs.toList, rfl, hx⟩
  | _ =>
    have hna : ∀ cs, v ≠ .agg cs := by
      rintro cs rfl
      simp [Value.okWide, Cell.okWide, Cell.ok, hd] at hv
    have : v.cells.toList = [v] := by
      cases v <;> first | rfl | exact absurd rfl (hna _)
    rw [this] at hx
    exact hx

/-- The shapes of arguments of these types. -/
@[reducible] def insOf (tl : List (Nat × TE)) : List Nat → Fs
  | [] => []
  | t :: r => (.dat (teAt tl t).ty, false) :: insOf tl r

def wfAll (tl : List (Nat × TE)) : (ts : List Nat) → (insOf tl ts).ty.den → Prop
  | [], _ => True
  | t :: r, x => (teAt tl t).ty.wf x.1 ∧ wfAll tl r x.2

theorem args_rep (htl : tlOk P tl tl = true) : ∀ {ts : List Nat} {vs : List Value} {ds : List (DataW H)} {ps : List MemPlace} {base : Nat}, (∀ t ∈ ts, (teAt tl t).pure = true) →
    (∀ (j : Nat) t v, ts[j]? = some t → vs[j]? = some v → Value.okWide P W .any base t v) → DataW.TrodAll enc P W 0 (fun _ => true) true ts vs ds ps →
    ∃ x : (insOf tl ts).ty.den, ShX (fun b => b < W.heap.size) W true (insOf tl ts).sh x vs [] ∧ wfAll tl ts x
  | [], [], [], _, _, _, _, _ => ⟨(), ⟨rfl, rfl⟩, trivial⟩
  | t :: ts, v :: vs, d :: ds, _, base, hp, hv, ⟨p, q, h1, h2, _⟩ => by
    obtain ⟨x, hx, hxw⟩ := val_rep htl (hp t (by simp)) (hv 0 t v rfl rfl) h1
    obtain ⟨y, hy, hyw⟩ := args_rep htl (ts := ts) (base := base) (fun u hu => hp u (by simp [hu])) (fun j u z hu hz => hv (j + 1) u z (by simpa using hu) (by simpa using hz)) h2
    refine ⟨(x, y), ⟨v, vs, [], [], rfl, rfl, ?_, hy⟩, hxw, hyw⟩
    show cond (teAt tl t).ty.agg _ _
    unfold ValOf at hx
    cases hag : (teAt tl t).ty.agg with
    | true =>
      rw [hag] at hx
      obtain ⟨cs, e, hr⟩ := hx
      exact ⟨cs, e, hr, rfl⟩
    | false =>
      rw [hag] at hx
      exact ⟨hx, rfl⟩
  | [], _ :: _, _, _, _, _, _, h => h.elim
  | [], [], _ :: _, _, _, _, _, h => h.elim
  | _ :: _, [], _, _, _, _, _, h => h.elim
  | _ :: _, _ :: _, [], _, _, _, _, h => h.elim

theorem back_all (hl : laidOutB P = true) {W' : World} (hb : Below W.heap.size W W') : ∀ {ts : List Nat} {vs : List Value} {ds : List (DataW H)} {ps : List MemPlace}, (∀ t ∈ ts, P.readableRec t = true ∧ t < P.types.size) →
    DataW.TrodAll enc P W 0 (fun _ => true) true ts vs ds ps → DataW.TrodAll enc P W' 0 (fun b => decide (b < W.heap.size)) true ts vs ds ps
  | [], [], [], _, _, h => h
  | t :: ts, v :: vs, d :: ds, _, hp, ⟨p, q, h1, h2, e⟩ => by
    refine ⟨p, q, Below.trod hl (hp t (by simp)).1 (hp t (by simp)).2 h1 hb ?_, back_all hl hb (fun u hu => hp u (by simp [hu])) h2, e⟩
    obtain ⟨m, hm⟩ := h1
    exact DataW.trod_lt m _ _ _ hm
  | [], _ :: _, _, _, _, h => h.elim
  | [], [], _ :: _, _, _, h => h.elim
  | _ :: _, [], _, _, _, h => h.elim
  | _ :: _, _ :: _, [], _, _, h => h.elim

/-- A law's call. -/
theorem law_calls {f : Nat} {ts : List Nat} {vs : List Value} (g : Nat → (insOf tl ts).ty.den → Option Bool) (u : (insOf tl ts).back.den)
    (he : ∀ k, EntOk P f ⟨insOf tl ts, .dat .bool, Bool, g k, fun _ y => (y, u), false⟩) (hg : ∀ x, wfAll tl ts x → ∃ k, g k x = some true)
    {x : (insOf tl ts).ty.den} (hx : ShX (fun b => b < W.heap.size) W true (insOf tl ts).sh x vs []) (hw : wfAll tl ts x) (hG : Gl (fun b => b < W.heap.size) W) :
    Calls P f vs.toArray W fun e W' => e = .returned (.bool true) ∧ Below W.heap.size W W' := by
  obtain ⟨k, hk⟩ := hg x hw
  refine ((he k).2 (fun b => b < W.heap.size) W vs x [] true ⟨fun b hb => (by cases hb), List.nodup_nil, fun b hb => hb, hG⟩ hx hk).mono ?_
  rintro e W' h
  cases e with
  | returned v =>
    obtain ⟨S', b1, b2, hran, hr, _⟩ := h
    refine ⟨?_, hran.os, hran.tape, hran.output.1, hran.size, fun b hb => hran.same b hb (by simp)⟩
    have hr : ([Value.bool true] = [v] ∨ [v] = [Value.bool true]) := .inr hr.1
    rcases hr with hr | hr
    · simp at hr; rw [hr]
    · simp at hr; rw [hr]
  | _ => exact h.elim

end

/-- What a law's call does, as its row asks. -/
theorem law_contract {C : Checked} {tl : List (Nat × TE)} (htl : tlOk C.prog tl tl = true) {f : FuncId} {fn : Func} {s : ChangeSpec} {H : Type} {enc : TypeId × Value → H} {rt : Nat}
    (hl : laidOutB C.prog = true) (hsv : s.vars = []) (hres : fn.resultTypes = #[rt]) (hrt : C.prog.underlying rt = some .bool) {ts : List Nat} (hts : fn.params.toList = ts)
    (hpure : sall (fun t => (teAt tl t).pure) ts = true) (hread : sall (fun t => C.prog.readableRec t && decide (t < C.prog.types.size)) ts = true)
    (hspec : ∀ ds : List (DataW H), ds.length = ts.length → s.fn H ds = { results := [.lit (.bool true)], args := ds })
    (g : Nat → (insOf tl ts).ty.den → Option Bool) (u : (insOf tl ts).back.den) (he : ∀ k, EntOk C.prog f ⟨insOf tl ts, .dat .bool, Bool, g k, fun _ y => (y, u), false⟩) (hg : ∀ x, wfAll tl ts x → ∃ k, g k x = some true)
    (W : World) (base : Nat) (args : Array Value) (ds gs : List (DataW H)) (before : List MemPlace)
    (hval : ∀ (j : Nat) t v, fn.params[j]? = some t → args[j]? = some v → Value.okWide C.prog W .any base t v)
    (hW : DataW.Whole enc C.prog fn.params.toList s.vars false W args.toList ds gs before) (hG : Gl (fun b => b < W.heap.size) W) :
    Calls C.prog f args W fun e W' => ∃ v, e = .returned v ∧ s.post enc C.prog fn false true false false W args v W' := by
  have hW' := hW
  obtain ⟨p, q, hA, hV, rfl, hfz, hnd⟩ := hW
  rw [hsv] at hV
  obtain ⟨rfl, rfl⟩ := Go.ChangeShapes.trodVars_none hV
  rw [hts] at hA
  obtain ⟨x, hx, hxw⟩ := args_rep htl (base := base) (fun t ht => sall_iff.1 hpure t ht) (fun j t v h1 h2 => hval j t v (by rw [← hts] at h1; simpa using h1) (by simpa using h2)) hA
  have hlen : ds.length = ts.length := by
    have : ∀ {ts : List Nat} {vs : List Value} {ds : List (DataW H)} {ps : List MemPlace}, DataW.TrodAll enc C.prog W 0 (fun _ => true) true ts vs ds ps → ds.length = ts.length := by
      intro ts
      induction ts with
      | nil => intro vs ds ps h; cases vs <;> cases ds <;> first | rfl | exact h.elim
      | cons t ts ih =>
        intro vs ds ps h
        cases vs with
        | nil => exact h.elim
        | cons v vs =>
          cases ds with
          | nil => exact h.elim
          | cons d ds =>
            obtain ⟨_, _, _, h2, _⟩ := h
            simp [ih h2]
    exact this hA
  refine (law_calls (P := C.prog) (W := W) g u he hg hx hxw hG).mono fun e W' ⟨he', bel⟩ => ?_
  refine ⟨.bool true, he', ds, [], p ++ [], [], p, [], hW', ?_, ?_, ?_, bel.frame _, fun h => by cases h⟩
  · rw [hres, List.append_nil, hspec ds hlen]
    exact Go.ChangeShapes.trodAll_mk1 (Go.RowKit.shut_bool hrt _)
  · rw [List.append_nil, hspec ds hlen, hts]
    exact back_all hl bel (fun t ht => by
      have := sall_iff.1 hread t ht
      rw [Bool.and_eq_true] at this
      exact ⟨this.1, of_decide_eq_true this.2⟩) hA
  · rw [hsv, List.append_nil, hspec ds hlen]
    rfl

/-- The frame of a law: what its row asks. -/
theorem law_lifted {C : Checked} {tl : List (Nat × TE)} (htl : tlOk C.prog tl tl = true) {os : Os} {f : FuncId} {fn : Func} {s : ChangeSpec} {conds : List PathCond} {H : Type} {enc : TypeId × Value → H} {rt : Nat}
    (own : ownKnob C.prog.godebug = none) (started : os.Started) (noInit : C.prog.inits.idxOf? f = none) (hfn : C.prog.funcs[f]? = some fn) (hl : laidOutB C.prog = true)
    (witness : ∃ (w : World) (tape : Tape) (i : Input), w.os = os ∧ (w.forCall tape i).Shaped C.prog ∧ i.vars = [] ∧ Input.okWide C.prog (w.forCall tape i) .any w.heap.size f i ∧
      s.pre6 enc C.prog fn conds false (w.forCall tape i).memory i.args ∧ Assume.holds {} C.prog (lone (Frame.enter C.prog f i.args .normal) [] (w.forCall tape i)))
    (hsv : s.vars = []) (hres : fn.resultTypes = #[rt]) (hrt : C.prog.underlying rt = some .bool) {ts : List Nat} (hts : fn.params.toList = ts)
    (hpure : sall (fun t => (teAt tl t).pure) ts = true) (hread : sall (fun t => C.prog.readableRec t && decide (t < C.prog.types.size)) ts = true)
    (hspec : ∀ ds : List (DataW H), ds.length = ts.length → s.fn H ds = { results := [.lit (.bool true)], args := ds })
    (g : Nat → (insOf tl ts).ty.den → Option Bool) (u : (insOf tl ts).back.den) (he : ∀ k, EntOk C.prog f ⟨insOf tl ts, .dat .bool, Bool, g k, fun _ y => (y, u), false⟩) (hg : ∀ x, wfAll tl ts x → ∃ k, g k x = some true)
    (hG : ∀ S W, Gl S W) :
    ReturnsInHanded {} C os f .any (s.pre6 enc C.prog fn conds false) (s.post enc C.prog fn false true false false) := by
  refine returnsInHanded_of_change_sized own started noInit hfn witness ?_
  intro W base args ds gs before hval hW hcnd hsz _
  exact law_contract htl hl hsv hres hrt hts hpure hread hspec g u he hg W base args ds gs before hval hW (hG _ _)

end Go.Pv

/- Plain lemmas for the readings. -/
set_option linter.unusedVariables false
namespace Go.Pv

theorem obS {α β : Type} (x : α) (f : α → Option β) : ob (some x) f = f x := rfl
theorem cdec {α : Type} {p : Prop} [Decidable p] (a b : α) : (bif decide p then a else b) = if p then a else b := by by_cases h : p <;> simp [h]
theorem cnot {α : Type} {c : Bool} (a b : α) : (bif !c then a else b) = bif c then b else a := by cases c <;> rfl
theorem wrapI {n : Int} (h1 : -9223372036854775808 ≤ n) (h2 : n ≤ 9223372036854775807) : IntKind.i64.wrap n = n := IntWalk.i64_in n ⟨h1, h2⟩
theorem wrapS {j : Nat} (h : j ≤ 1000000000) : IntKind.i64.wrap ((j : Int) + 1) = ((j + 1 : Nat) : Int) := by
  rw [wrapI (by omega) (by omega)]; omega
theorem ibne {a b : Int} : (a != b) = !decide (a = b) := by
  by_cases h : a = b <;> simp [h]
theorem ibeq {a b : Int} : (a == b) = decide (a = b) := by
  by_cases h : a = b <;> simp [h]

/-- A loop that counts up. -/
theorem upto {σ ρ : Type} (l : Nat → σ → Option ρ) (s : Nat → σ) (n : Nat) (r : ρ) (hs : ∀ k j, j < n → l (k + 1) (s j) = l k (s (j + 1))) (he : ∀ k, l (k + 1) (s n) = some r) :
    ∀ k j, n - j < k → j ≤ n → l k (s j) = some r
  | 0, j, hk, _ => by omega
  | k + 1, j, hk, hj => by
    by_cases h : j < n
    · rw [hs k j h]; exact upto l s n r hs he k (j + 1) (by omega) (by omega)
    · have : j = n := by omega
      subst this; exact he k
open Classical in
/-- A loop that counts up as long as all is right. -/
theorem uptoAll {σ ρ : Type} (l : Nat → σ → Option ρ) (s : Nat → σ) (n : Nat) (p : Nat → Prop) (r r' : ρ) (hs : ∀ k j, j < n → p j → l (k + 1) (s j) = l k (s (j + 1))) (hb : ∀ k j, j < n → ¬ p j → l (k + 1) (s j) = some r')
    (he : ∀ k, l (k + 1) (s n) = some r) : ∀ k j, n - j < k → j ≤ n → l k (s j) = some (if ∀ i, j ≤ i → i < n → p i then r else r')
  | 0, j, hk, _ => by omega
  | k + 1, j, hk, hj => by
    by_cases h : j < n
    · by_cases g : p j
      · rw [hs k j h g, uptoAll l s n p r r' hs hb he k (j + 1) (by omega) (by omega)]
        congr 1
        have : (∀ i, j + 1 ≤ i → i < n → p i) ↔ ∀ i, j ≤ i → i < n → p i := by
          constructor
          · intro h1 i h2 h3
            rcases Nat.lt_or_ge j i with h4 | h4
            · exact h1 i h4 h3
            · have : i = j := by omega
              subst this; exact g
          · exact fun h1 i h2 h3 => h1 i (by omega) h3
        by_cases h5 : ∀ i, j + 1 ≤ i → i < n → p i
        · rw [if_pos h5, if_pos (this.1 h5)]
        · rw [if_neg h5, if_neg (fun h6 => h5 (this.2 h6))]
      · rw [hb k j h g, if_neg (fun h1 => g (h1 j (Nat.le_refl _) h))]
    · have : j = n := by omega
      subst this
      rw [he k, if_pos (fun i h1 h2 => absurd h2 (by omega))]

theorem take_getD {α : Type} {w : List α} {j : Nat} (d : α) (hj : j < w.length) : w.take (j + 1) = w.take j ++ [w.getD j d] := by
  rw [List.take_succ_eq_append_getElem hj]
  simp [List.getD, hj]
theorem drop_getD {α : Type} {w : List α} {j : Nat} (d : α) (h : j < w.length) : w.drop j = w.getD j d :: w.drop (j + 1) := by
  rw [List.drop_eq_getElem_cons h]
  simp [List.getD, h]
theorem set_map {α : Type} {l : List α} {j : Nat} (d : α) (g : α → α) (hj : j < l.length) : ((l.take j).map g ++ l.drop j).set j (g (l.getD j d)) = (l.take (j + 1)).map g ++ l.drop (j + 1) := by
  rw [take_getD d hj, List.map_append, List.append_assoc, drop_getD d hj, List.set_append_right _ _ (by simp; omega)]
  simp [Nat.min_eq_left (Nat.le_of_lt hj)]
theorem map_snoc {α β : Type} {l : List α} {j : Nat} (d : α) (g : α → β) (hj : j < l.length) : (l.take j).map g ++ [g (l.getD j d)] = (l.take (j + 1)).map g := by
  rw [take_getD d hj, List.map_append]; rfl
theorem getD_map {α β : Type} {l : List α} {j : Nat} (d : α) (e : β) (g : α → β) (hj : j < l.length) : (l.map g).getD j e = g (l.getD j d) := by
  simp [List.getD, hj]
theorem getD_mem {α : Type} {l : List α} {j : Nat} (d : α) (hj : j < l.length) : l.getD j d ∈ l := by
  have : l.getD j d = l[j] := by simp [List.getD, hj]
  rw [this]; exact List.getElem_mem hj

end Go.Pv

/- Loops over functions whose bodies call nothing. -/
set_option linter.unusedVariables false
set_option linter.unusedSimpArgs false
namespace Go.Pv
open Go.RowKit

def opsS (L : Lib) : List Oper → St → Option St
  | [], st => some st
  | o :: r, st => match o.guard with
    | none => ob (opAV L st o some) fun st => opsS L r st
    | some _ => none
section
variable {P : Program} {B : Base} {D : Nat → Bool} {L : Lib}

theorem opAV_nodefer {R : Type} {st : St} {o : Oper} {K : St → Option R} {r : R} (h : opAV L st o K = some r) : ∀ c, o.op ≠ .defer c := by
  intro c e
  unfold opAV at h
  rw [e] at h
  cases h

theorem opsS_ok (hT : ∀ t, TiOk P L.ti t) (hD : ∀ t, D t = true → t < B.a.tmps.size) {l m : Nat} {ops : Array Oper} {Q : Exit → Act → World → Prop} {df : List Deferred} : ∀ {os : List Oper} {μ : Nat → Option At} {S : Nat → Prop} {w : World} {st st' : St} {a : Act},
    opsS L os st = some st' → (∀ o ∈ os, ∀ d, o.dst = some d → D d = true) → Now B D μ S w st a → a.defers = df → (∀ μ' S' w' a', Now B D μ' S' w' st' a' → a'.defers = df → Q .normal a' w') →
    wpListIn (Fence.wide.inRound l) m P ops Q os a w
  | [], μ, S, w, st, st', a, h, _, hn, hd, hK => by cases h; exact hK _ _ _ _ hn hd
  | o :: r, μ, S, w, st, st', a, h, ho, hn, hd, hK => by
    rw [opsS] at h
    split at h
    · rename_i hg
      obtain ⟨st1, h1, h⟩ := ob_some h
      have hw : Region.wanted o (yielded ops a.tmps) = true := by simp [Region.wanted, hg]
      rw [wpListIn, if_pos hw]
      refine ⟨fun _ _ => trivial, ?_⟩
      rw [show (Fence.wide.inRound l).round = some l from rfl, Oper.semAt_some l _ _ (opAV_nodefer h1)]
      obtain ⟨ε, nb', x, μ', S', w', v, nx, k1, k2, k3, k4, k5⟩ := opAV_ok hT rfl hn.step.1 hn.fr h1
      cases k1
      have hn2 := (hn.go k4).put hD (ho o (by simp)) k5
      rw [k2]
      have hfin : wpListIn (Fence.wide.inRound l) m P ops Q r (a.put o.dst v) w' := opsS_ok hT hD h (fun o' ho' => ho o' (by simp [ho'])) hn2 (by cases o.dst <;> exact hd) hK
      rcases k3 with rfl | ⟨rfl, rfl⟩
      · exact hfin
      · exact hfin
    · cases h

end

theorem StepB.over {μ μ' : Nat → Option At} {S S' : Nat → Prop} {w W W' : World} {bl bl' : List (Nat × Blk)} {nb nb' : Nat} (h : StepB μ S w bl nb μ' S' W bl' nb') {X : Nat → Prop}
    (hos : W'.os = W.os) (htape : W'.tape = W.tape) (hout : OutOk W W') (hsize : W.heap.size ≤ W'.heap.size) (hsame : ∀ b, b < W.heap.size → ¬ X b → W'.heap[b]? = W.heap[b]?)
    (hX : ∀ b, X b → ¬ S' b ∧ ¬ Liv μ' bl' b ∧ w.heap.size ≤ b) : StepB μ S w bl nb μ' S' W' bl' nb' := by
  have hS : ∀ b, S' b → W'.heap[b]? = W.heap[b]? := fun b hb => hsame b (h.1.sb b hb) fun hx => (hX b hx).1 hb
  have hliv : ∀ b, Liv μ' bl' b → W'.heap[b]? = W.heap[b]? := fun b hb => hsame b (h.1.old b hb).1 fun hx => (hX b hx).2.1 hb
  have he := h.2.1
  refine ⟨⟨h.1.dom, fun k x hk => ?_, fun b hb => ⟨Nat.lt_of_lt_of_le (h.1.old b hb).1 hsize, (h.1.old b hb).2⟩, h.1.inj, fun b hb => Nat.lt_of_lt_of_le (h.1.sb b hb) hsize, h.1.gl.move (fun _ h => h) hS⟩,
    ⟨hos.trans he.os, htape.trans he.tape, hout.trans he.output, Nat.le_trans he.size hsize, fun b hb hl => ?_, he.sub, he.new, he.liv, he.mu⟩, h.2.2⟩
  · by_cases hx : x = .dead
    · subst hx; trivial
    · exact RB.move (fun _ _ h => h) (fun _ h => h) hS (fun p hp hn _ => hliv _ ⟨k, x, p, hk, hx, hp, hn, rfl⟩) (h.1.blk k x hk)
  · exact (hsame b (Nat.lt_of_lt_of_le hb he.size) fun hx => by have := (hX b hx).2.2; omega).trans (he.same b hb hl)

theorem StepB.grow {μ μ' : Nat → Option At} {S S' : Nat → Prop} {w W W' : World} {bl bl' : List (Nat × Blk)} {nb nb' : Nat} (h : StepB μ S w bl nb μ' S' W bl' nb') (hg : W.grownBy W' none) (hd : W.drawn ≤ W'.drawn) : StepB μ S w bl nb μ' S' W' bl' nb' :=
  h.over (X := fun _ => False) hg.os hg.tape ⟨hg.output, hd⟩ hg.size (fun b hb _ => hg.block b hb (by simp)) (fun b hb => hb.elim)

theorem StepB.putObj {μ μ' : Nat → Option At} {S S' : Nat → Prop} {w W : World} {bl bl' : List (Nat × Blk)} {nb nb' : Nat} (h : StepB μ S w bl nb μ' S' W bl' nb') {l : Nat} {o : Obj} (hl : w.heap.size ≤ l) (hS : ¬ S' l) (hv : ¬ Liv μ' bl' l) : StepB μ S w bl nb μ' S' (W.putObj l o) bl' nb' :=
  h.over (X := fun b => b = l) rfl rfl ⟨rfl, Nat.le_refl _⟩ (by simp) (fun b hb hx => World.putObj_heap_other hx) (fun b hb => by subst hb; exact ⟨hS, hv, hl⟩)

/-- What is neither written nor the state's own stays. -/
theorem StepB.lies {μ μ' : Nat → Option At} {S S' : Nat → Prop} {w w' : World} {bl bl' : List (Nat × Blk)} {nb nb' : Nat} (h0 : SimB μ S w bl nb) (h : StepB μ S w bl nb μ' S' w' bl' nb') {D : Nat} {o : Obj} (hD : w.heap[D]? = some o)
    (hS : ¬ S D) (hl : ¬ Liv μ bl D) : ¬ S' D ∧ ¬ Liv μ' bl' D ∧ w'.heap[D]? = some o := by
  have hlt := (Array.getElem?_eq_some_iff.1 hD).1
  refine ⟨fun hs => ?_, fun hs => ?_, (h.2.1.same D hlt hl).trans hD⟩
  · rcases h.2.1.new D hs with g | g | g
    · exact hS g
    · omega
    · exact hl g
  · rcases h.2.1.liv D hs with g | g
    · exact hl g
    · omega


theorem Liv.same {μ : Nat → Option At} {bl bl' : List (Nat × Blk)} (he : ∀ i, lk bl' i = lk bl i) {b : Nat} : Liv μ bl' b ↔ Liv μ bl b := by
  unfold Liv
  simp only [he]
theorem StepB.same {μ μ' : Nat → Option At} {S S' : Nat → Prop} {w w' : World} {bl bl1 bl' : List (Nat × Blk)} {nb nb' : Nat} (h : StepB μ S w bl nb μ' S' w' bl1 nb') (he : ∀ i, lk bl' i = lk bl1 i) : StepB μ S w bl nb μ' S' w' bl' nb' := by
  obtain ⟨h1, h2, h3, h4⟩ := h
  refine ⟨⟨h1.dom, fun k x hk => h1.blk k x (he k ▸ hk), fun b hb => h1.old b ((Liv.same he).1 hb), fun k k' x x' p p' hk hk' => h1.inj k k' x x' p p' (he k ▸ hk) (he k' ▸ hk'), h1.sb, h1.gl⟩,
    ⟨h2.os, h2.tape, h2.output, h2.size, h2.same, h2.sub, h2.new, fun b hb => h2.liv b ((Liv.same he).1 hb), h2.mu⟩, h3, h4⟩

theorem RX.swap {μ μ1 μ2 : Nat → Option At} {S S1 : Nat → Prop} {w w1 : World} (hm : ∀ n p, μ n = some p → μ2 n = μ1 n) : ∀ {a : AV} {g : Bool} {cs ds : List Value}, RX μ S w g a cs → RX μ1 S1 w1 g a ds → RX μ2 S1 w1 g a ds := by
  intro a
  induction a with
  | dat t x => intro g cs ds h k; cases g with | false => exact k | true => exact h.elim
  | own k => intro g cs ds h h1; cases g with | false => obtain ⟨p, hp, _⟩ := h; obtain ⟨q, hq, e⟩ := h1; exact ⟨q, (hm _ _ hp).trans hq, e⟩ | true => exact h.elim
  | nil => intro g cs ds h k; cases g with | false => exact k | true => exact h.elim
  | ptr k off => intro g cs ds h h1; cases g with | false => obtain ⟨p, hp, _⟩ := h; obtain ⟨q, hq, e⟩ := h1; exact ⟨q, (hm _ _ hp).trans hq, e⟩ | true => exact h.elim
  | rptr k e t get put => intro g cs ds h h1; cases g with | false => obtain ⟨p, _, hp, _⟩ := h; obtain ⟨q, δ, hq, e⟩ := h1; exact ⟨q, δ, (hm _ _ hp).trans hq, e⟩ | true => exact h.elim
  | aptr k off n e t get put => intro g cs ds h h1; cases g with | false => obtain ⟨p, _, hp, _⟩ := h; obtain ⟨q, δ, hq, e⟩ := h1; exact ⟨q, δ, (hm _ _ hp).trans hq, e⟩ | true => exact h.elim
  | vptr k sz i off => intro g cs ds h h1; cases g with | false => obtain ⟨p, hp, _⟩ := h; obtain ⟨q, hq, e⟩ := h1; exact ⟨q, (hm _ _ hp).trans hq, e⟩ | true => exact h.elim
  | iptr t x => intro g cs ds h k; cases g with | false => exact k | true => exact h.elim
  | fn f cap ih => intro g cs ds h h1; cases g with | false => obtain ⟨vs, _, hr⟩ := h; obtain ⟨us, e, hs⟩ := h1; exact ⟨us, e, ih hr hs⟩ | true => exact h.elim
  | nilfn => intro g cs ds h k; cases g with | false => exact k | true => exact h.elim
  | mp k => intro g cs ds h h1; cases g with | false => obtain ⟨p, hp, _⟩ := h; obtain ⟨q, hq, e⟩ := h1; exact ⟨q, (hm _ _ hp).trans hq, e⟩ | true => exact h.elim
  | pr a b iha ihb => intro g cs ds h h1; cases g with | false => obtain ⟨c, r, _, k1, k2⟩ := h; obtain ⟨c', r', e, k3, k4⟩ := h1; exact ⟨c', r', e, iha k1 k3, ihb k2 k4⟩ | true => exact h.elim
  | cons a b iha ihb =>
    intro g cs ds h h1
    cases g with
    | false => exact h.elim
    | true =>
      obtain ⟨v, r, _, k1, k2⟩ := h
      obtain ⟨v', r', e, k3, k4⟩ := h1
      refine ⟨v', r', e, ?_, ihb k2 k4⟩
      cases hg : a.agg with
      | true => rw [hg] at k1 k3; obtain ⟨_, _, k1⟩ := k1; obtain ⟨cs, e1, k3⟩ := k3; exact ⟨cs, e1, iha k1 k3⟩
      | false => rw [hg] at k1 k3; exact iha k1 k3
  | un => intro g cs ds h k; cases g with | false => exact k | true => exact k
  | junk => intro g cs ds h k; cases g with | false => exact h.elim | true => exact h.elim
theorem RVals.swap {μ μ1 μ2 : Nat → Option At} {S S1 : Nat → Prop} {w w1 : World} {sz : Nat} (hm : ∀ n p, μ n = some p → μ2 n = μ1 n) : ∀ {a : AV} {cs ds : List Value}, RVals μ S w sz a cs → RVals μ1 S1 w1 sz a ds → RVals μ2 S1 w1 sz a ds := by
  intro a
  induction a with
  | cons a b iha ihb => intro cs ds h h1; obtain ⟨c, r, _, _, k1, k2⟩ := h; obtain ⟨c', r', e, hl, k3, k4⟩ := h1; exact ⟨c', r', e, hl, RX.swap hm k1 k3, ihb k2 k4⟩
  | un => intro cs ds h k; exact k
  | _ => intro cs ds h; exact h.elim
theorem RB.swap {μ μ1 μ2 : Nat → Option At} {S S1 : Nat → Prop} {w w1 : World} {k : Nat} {x : Blk} (hm : ∀ n p, μ n = some p → μ2 n = μ1 n) (h : RB μ S w k x) (h1 : RB μ1 S1 w1 k x) : RB μ2 S1 w1 k x := by
  cases x with
  | box v =>
    obtain ⟨p, hp, _, cs, _, _, h2⟩ := h
    obtain ⟨q, hq, hn, ds, ty, h3, h4⟩ := h1
    exact ⟨q, (hm _ _ hp).trans hq, hn, ds, ty, h3, RX.swap hm h2 h4⟩
  | row e xs =>
    obtain ⟨p, hp, _⟩ := h
    obtain ⟨q, hq, hn⟩ := h1
    exact ⟨q, (hm _ _ hp).trans hq, hn⟩
  | vals n sz vs =>
    obtain ⟨p, hp, _, _, _, _, cs, _, _, h2⟩ := h
    obtain ⟨q, hq, hn, g1, g2, g3, ds, ty, h3, h4⟩ := h1
    exact ⟨q, (hm _ _ hp).trans hq, hn, g1, g2, g3, ds, ty, h3, RVals.swap hm h2 h4⟩
  | map kt vt es =>
    obtain ⟨p, hp, _⟩ := h
    obtain ⟨q, hq, hn⟩ := h1
    exact ⟨q, (hm _ _ hp).trans hq, hn⟩
  | dead => trivial

def immOf (t : Ty) : AV → Option t.den
  | .iptr u x => match Ty.same u t with
    | some h => some (Ty.as h.out x)
    | none => none
  | _ => none

theorem nat_beq_iff {a b : Nat} : Nat.beq a b = true ↔ a = b := ⟨Nat.eq_of_beq_eq_true, fun h => by subst h; exact Nat.beq_refl a⟩

theorem SimB.lt {μ : Nat → Option At} {S : Nat → Prop} {w : World} {bl : List (Nat × Blk)} {nb : Nat} (h0 : SimB μ S w bl nb) {i : Nat} {x : Blk} (hi : lk bl i = some x) (hx : x ≠ .dead) : i < nb := by
  have hr := h0.blk i x hi
  cases x with
  | box v => obtain ⟨p, hp, _⟩ := hr; exact h0.dom _ _ hp
  | row e xs => obtain ⟨p, hp, _⟩ := hr; exact h0.dom _ _ hp
  | vals n sz vs => obtain ⟨p, hp, _⟩ := hr; exact h0.dom _ _ hp
  | map kt vt es => obtain ⟨p, hp, _⟩ := hr; exact h0.dom _ _ hp
  | dead => exact absurd rfl hx

theorem enter_of {P : Program} {f : Nat} {fn : Func} {c : Code} (hf : P.funcs[f]? = some fn) (hb : fn.body = some c) (hn : (fn.name == "runtime.NumGoroutine") = false) (args : Array Value) (w : World) : (callFunc f args).run P w = .ok (.enter f args) w := by
  simp only [callFunc, Sem.run_bind, run_program, Result.andThen_ok, Sem.run_pure, hf, hn, Bool.false_eq_true, if_false, hb, Option.isNone_some]

theorem RowAt.rep {S S1 : Nat → Prop} {w : World} {p : At} {e : Ty} {xs : List e.den} (h : RowAt S w p e xs) (hS : ∀ b, S b → S1 b) (hp : p.nl = false → S1 p.b) : Rep S1 w (.sl e) xs [rowVal p] := by
  obtain ⟨hn, h⟩ := h
  rcases h with ⟨h1, rfl, h3⟩ | ⟨hnl, cs, ty, h1, h2, h3, h4, h5⟩
  · refine ⟨none, 0, ?_, by simp, fun h0 => by simp at h0⟩
    unfold rowVal
    rw [h1, hn, h3]; rfl
  · refine ⟨some ⟨p.b, p.o, none⟩, p.cap, ?_, h2, fun h0 => ⟨p.b, p.o, _, rfl, hp hnl, CellsAt.of_heap h1 p.o (xs.length * e.size), h5.imp fun x c h => Rep.move hS (fun _ _ => rfl) h⟩⟩
    unfold rowVal
    rw [hnl, hn]; rfl

def Fs.calm : Fs → Bool
  | [] => true
  | (s, true) :: _ => false
  | (s, false) :: r => cond s.still (Fs.calm r) false
end Go.Pv

/- Loops over functions that hand pairs on. -/
set_option linter.unusedVariables false
set_option linter.unusedSimpArgs false
namespace Go.Pv
open Go Go.RowKit

/-- The same of a function that hands pairs on. -/
def IterOk2 (P : Program) (g : Nat) (caps : List Value) {α : Type} (enc enc2 : α → Value) (xs : List α) (N : Nat) (S : Nat → Prop) (w : World) : Prop :=
  ∀ (m l : Nat) (J : List α → World → Prop) (W : World), 1 ≤ m → (∀ s A A', J s A → A.grownBy A' none → A.drawn ≤ A'.drawn → J s A') → (∀ s A, J s A → w.heap.size ≤ A.heap.size ∧ ∀ b, S b → A.heap[b]? = w.heap[b]?) →
    (∀ pre x A, J pre A → pre.length < N → YieldAt Fence.wide (m - 1) P l #[enc x, enc2 x] A fun e A' => e = .returned (.bool true) ∧ J (pre ++ [x]) A') → J [] W →
    CallsIn Fence.wide m P g (#[.func (.yield l) #[] #[]] ++ caps.toArray) W fun e A => (∃ v, e = .returned v) ∧ J xs A

/-- What a value of this kind hands on. -/
def SeqOk2 (P : Program) {α : Type} (enc enc2 : α → Value) (N : Nat) (seq : AV → Option (Bool × List α)) : Prop :=
  ∀ (v : AV) (xs : List α) (μ : Nat → Option At) (S : Nat → Prop) (w : World) (bl : List (Nat × Blk)) (nb : Nat) (u : Value), seq v = some (true, xs) → SimB μ S w bl nb → RV μ S w v u →
    ∃ g caps, u = .func (.func g) #[] caps.toArray ∧ (∀ args w, (callFunc g args).run P w = .ok (.enter g args) w) ∧ IterOk2 P g caps enc enc2 xs N S w

end Go.Pv

/- Loops over functions whose bodies hold regions that draw their order. -/
set_option linter.unusedVariables false
set_option linter.unusedSimpArgs false
namespace Go.Pv
open Go Go.RowKit

def inlN {R : Type} : Nat → AV → St → (AV → St → Option R) → Option R := fun _ _ _ _ => none
/-- No calls, no guards. -/
def calm : List Oper → Bool
  | [] => true
  | o :: r => match o.guard, isCall o.op with
    | none, none => calm r
    | _, _ => false
theorem calm_mem : ∀ {l : List Oper} {o : Oper}, calm l = true → o ∈ l → o.guard = none ∧ isCall o.op = none
  | [], o, _, h => by cases h
  | p :: r, o, hc, h => by
    rw [calm] at hc
    split at hc
    · rename_i h1 h2
      rcases List.mem_cons.1 h with rfl | h
      · exact ⟨h1, h2⟩
      · exact calm_mem hc h
    · cases hc

/-- A code that calls nothing; its regions may draw their order. -/
def evR (L : Lib) : Code → St → Option St
  | .skip, st => some st
  | .region _ ops false, st => opsS L ops.toList st
  | .region _ ops true, st => cond (calm ops.toList) (drawOps L inlN ops.toList (befores ops.toList []) st 0 ops.toList st.nb [] some) none
  | .seq a b, st => ob (evR L a st) fun st => evR L b st
  | .block _ c, st => evR L c st
  | _, _ => none

section
variable {P : Program} {B : Base} {D : Nat → Bool} {μ : Nat → Option At} {S : Nat → Prop} {w : World} {st : St} {a : Act}
theorem guardedIn_ok {L : Lib} (hT : ∀ t, TiOk P L.ti t) (hD : ∀ t, D t = true → t < B.a.tmps.size) {l m : Nat} {df : List Deferred} {ops : Array Oper} {i : Nat} {o : Oper} (hi : ops[i]? = some o) (hcalm : o.guard = none ∧ isCall o.op = none) (ho : ∀ d, o.dst = some d → D d = true)
    {K : St → Option St} {r : St} (h : guarded (fun st K => doOp L inlN st o K) ops.toList st o K = some r) (hn : Now B D μ S w st a) (hd : a.defers = df) {next : Act → World → Prop} {Q : Exit → Act → World → Prop}
    (hK : ∀ μ' S' w' st' a', Now B D μ' S' w' st' a' → K st' = some r → a'.defers = df → next a' w') : wpOpIn (Fence.wide.inRound l) m P ops Q i next a w := by
  unfold wpOpIn
  rw [hi]
  dsimp only
  have hw : Region.wanted o (yielded ops a.tmps) = true := by simp [Region.wanted, hcalm.1]
  rw [if_pos hw]
  unfold guarded at h
  rw [hcalm.1] at h
  have h : doOp L inlN st o K = some r := h
  unfold doOp at h
  rw [hcalm.2] at h
  obtain ⟨Sf, hnf⟩ := hn.freeze L o
  obtain ⟨ε, nb', x, μ', S', w', v, nx, h1, h2, h3, h4, h5⟩ := opAV_ok hT rfl hnf.step.1 hnf.fr h
  have hn2 := (hnf.go h4).put hD ho h5
  have hfin := hK _ _ _ _ _ hn2 h1 (by cases o.dst <;> exact hd)
  refine ⟨fun _ _ => trivial, ?_⟩
  rw [show (Fence.wide.inRound l).round = some l from rfl, Oper.semAt_some l _ _ (opAV_nodefer h)]
  rw [h2]
  rcases h3 with rfl | ⟨rfl, rfl⟩
  · exact hfin
  · exact hfin

theorem drawOpsIn_ok {L : Lib} (hti : ∀ t, TiOk P L.ti t) (hord : P.follows .mixedOrders = true) (hD : ∀ t, D t = true → t < B.a.tmps.size) {l m : Nat} {df : List Deferred} {id : Nat} {ops : Array Oper} (hc : calm ops.toList = true) (hdst : ∀ t ∈ opsDsts ops.toList, D t = true)
    {r : St} {Q : Exit → Act → World → Prop} (hK : ∀ μ' S' w' a', Now B D μ' S' w' r a' → a'.defers = df → Q .normal a' w')
    (h : drawOps L inlN ops.toList (befores ops.toList []) st 0 ops.toList st.nb [] some = some r) (hn : Now B D μ S w st a) (hdf : a.defers = df) : (Code.region id ops true).wpIn (Fence.wide.inRound l) m P Q a w := by
  have hIK : ∀ k : St → Option St, InlK inlN inlN k := fun k g as s K' => rfl
  generalize hbs : befores ops.toList [] = bs at h
  obtain ⟨δ, _, hT, hok, hfin⟩ := trace hIK (q := ops.toList) (j := 0) (δ0 := fun _ => ⟨[], [], 0, none⟩) (Nat.zero_le _) rfl rfl rfl h
  have hP := drawP_of hok
  have hlen : ops.toList.length = ops.size := by simp
  refine wpIn_region_any hord ?_
  have main : ∀ (fuel : Nat) (listed : Array Bool) (μ : Nat → Option At) (S : Nat → Prop) (w : World) (a : Act), listed.size = ops.size → cnt (fun i => listed.getD i false) ops.size ≤ fuel →
      Inv B D ops.toList bs st δ (fun i => listed.getD i false) μ S w a → a.defers = df → wpAnyIn (Fence.wide.inRound l) m P .any ops Q fuel listed a w := by
    -- all have run
    have last : ∀ (listed : Array Bool) (μ : Nat → Option At) (S : Nat → Prop) (w : World) (a : Act), (∀ i, i < ops.size → listed.getD i false = true) → Inv B D ops.toList bs st δ (fun i => listed.getD i false) μ S w a → a.defers = df → Q .normal a w := by
      intro listed μ S w a hall hi hdf
      have hsel : ∀ i, i < ops.toList.length → (fun i => listed.getD i false) i = (fun _ => true) i := fun i hil => hall i (by omega)
      have e1 := J_sel (f := Dlt.bl) (δ := δ) hsel
      have e2 := J_sel (f := Dlt.fr) (δ := δ) hsel
      have hnu := nu_mono hP (i := 0) (j := ops.toList.length) (Nat.zero_le _) (Nat.le_refl _)
      have hnu : st.nb ≤ nuOf st.nb δ ops.toList.length := hnu
      simp only [Option.some.injEq] at hfin
      subst hfin
      refine hK μ S w a ⟨⟨⟨?_, ?_, ?_, ?_, hi.sb, hi.gl⟩, ?_, ?_, hi.low⟩, ⟨?_⟩, hi.asize, hi.keep, ?_, ?_, hi.mks⟩ hdf
      · intro k p hk
        rcases hi.U k p hk with h | ⟨i, h1, h2, h3, h4⟩
        · exact Nat.lt_of_lt_of_le h hnu
        · exact Nat.lt_of_lt_of_le h4 (nu_mono hP (i := i + 1) h1 (Nat.le_refl _))
      · intro k x hk; exact hi.blk k x (by rw [e1]; exact hk)
      · intro b hb; exact hi.old b (by rw [e1]; exact hb)
      · intro k k' x x' p p' hk hk'; exact hi.inj k k' x x' p p' (by rw [e1]; exact hk) (by rw [e1]; exact hk')
      · have := hi.evo; rw [e1] at this; exact this
      · exact Nat.le_trans hn.step.2.2.1 hnu
      · intro t v ht
        rcases J_lk ht with ⟨p, h1, h2, h3, h4⟩ | ⟨h1, h2⟩
        · refine hi.FI p h1 (hall p (by omega)) t v h3 fun i' g1 g2 g3 g4 => ?_
          have hown := hP.own i' t g1 g4
          have hle : i' < p := by
            rcases Nat.lt_or_ge p i' with h | h
            · exact absurd hown (h4 i' h g1 rfl)
            · omega
          cases hb2 : sbit (snum bs p) i' with
          | true => rfl
          | false =>
            exfalso
            exact hP.apartF i' p t g1 h1 (unord_of g3 (by
              cases h : sbit (snum bs i') p with
              | false => rfl
              | true => have := hP.bit_lt i' p g1 h1 h; omega) hb2) g4 (lk_key h3)
        · exact hi.F0 t v h2 fun i' g1 g2 g3 => h1 i' g1 rfl (hP.own i' t g1 g3)
      · obtain ⟨ε, he⟩ := hn.ext
        exact ⟨J Dlt.bl δ (fun _ => true) ops.toList.length ++ ε, by rw [List.append_assoc, ← he]⟩
      · obtain ⟨ε, he⟩ := hn.fext
        exact ⟨J Dlt.fr δ (fun _ => true) ops.toList.length ++ ε, by rw [List.append_assoc, ← he]⟩
    -- none is ready: all have run
    have noReady : ∀ (listed : Array Bool), listed.size = ops.size → Region.ready .any ops listed = [] → ∀ i, i < ops.size → listed.getD i false = true := by
      intro listed hsz hr i
      induction i using Nat.strongRecOn with
      | _ i ih =>
        intro hi
        cases hl : listed.getD i false with
        | true => rfl
        | false =>
          exfalso
          have hmem : i ∈ Region.ready .any ops listed := by
            rw [mem_ready]
            have hilt : i < listed.size := by omega
            refine ⟨?_, ops[i], Array.getElem?_eq_getElem hi, fun e he hb => ?_⟩
            · rw [Array.getD_eq_getD_getElem?, Array.getElem?_eq_getElem hilt] at hl ⊢
              simpa using hl
            · rw [← binding_eq] at hb
              have haf : afterOf ops.toList i = ops[i].after.toList := by
                unfold afterOf
                rw [snth_eq, Array.getElem?_toList, Array.getElem?_eq_getElem hi]
              have hed := hP.edge i e (by omega) (by rw [haf]; exact Array.mem_toList_iff.2 he) hb
              exact ih e.on hed.1 (by omega)
          rw [hr] at hmem; cases hmem
    intro fuel
    induction fuel with
    | zero =>
      intro listed μ S w a hsz hcn hi hdf
      have hall := cnt_zero (Nat.le_zero.1 hcn)
      refine ⟨?_, last listed μ S w a hall hi hdf⟩
      cases hrd : Region.ready .any ops listed with
      | nil => rfl
      | cons x xs =>
        exfalso
        have hx : x ∈ Region.ready .any ops listed := by rw [hrd]; simp
        obtain ⟨h1, o, ho, _⟩ := mem_ready.1 hx
        have hlt : x < ops.size := (Array.getElem?_eq_some_iff.1 ho).1
        have h2 := hall x hlt
        have hilt : x < listed.size := by omega
        rw [Array.getD_eq_getD_getElem?, Array.getElem?_eq_getElem hilt] at h1 h2
        simp only [Option.getD_some] at h1 h2
        rw [h1] at h2; cases h2
    | succ fuel ih =>
      intro listed μ S w a hsz hcn hi hdf
      refine ⟨fun hr => last listed μ S w a (noReady listed hsz hr) hi hdf, fun j hjr => ?_⟩
      obtain ⟨h1, o, ho, hedges⟩ := mem_ready.1 hjr
      have hjs : j < ops.size := (Array.getElem?_eq_some_iff.1 ho).1
      have hjl : j < ops.toList.length := by omega
      have hjlt : j < listed.size := by omega
      have hjE : listed.getD j false = false := by
        rw [Array.getD_eq_getD_getElem?, Array.getElem?_eq_getElem hjlt] at h1 ⊢
        simpa using h1
      have haf : afterOf ops.toList j = o.after.toList := by
        unfold afterOf
        rw [snth_eq, Array.getElem?_toList, ho]
      have hpre : ∀ p, p < ops.toList.length → sbit (snum bs j) p = true → listed.getD p false = true := by
        intro p hp hb
        obtain ⟨e, he, hbind, hor⟩ := hP.bit_by j p hjl hp hb
        rw [haf] at he
        have hon := hedges e (Array.mem_toList_iff.1 he) (by rw [← binding_eq]; exact hbind)
        rcases hor with rfl | hor
        · exact hon
        · have hed := hP.edge j e hjl (by rw [haf]; exact he) hbind
          exact hi.down e.on (by omega) hon p hp hor
      have hsee : (δ j).see = seeOf ops.toList bs st δ j := by
        obtain ⟨_, _, _, _, hδ⟩ := hT j (Nat.zero_le _) hjl
        rw [hδ]
      obtain ⟨hBj, hFj⟩ := hi.at hP hjl hjE hsee hpre
      obtain ⟨o', st', ho', hrun, hδ⟩ := hT j (Nat.zero_le _) hjl
      rw [Array.getElem?_toList, ho] at ho'
      cases ho'
      have hdo : dstOf ops.toList j = o.dst := by rw [dstOf_eq, ho]; rfl
      have hmem : o ∈ ops.toList := List.mem_of_getElem? (by rw [Array.getElem?_toList]; exact ho)
      refine guardedIn_ok (B := ⟨restr μ (nuOf st.nb δ j), S, w, (srOf ops.toList bs st δ j).bl, (srOf ops.toList bs st δ j).nb, a, (srOf ops.toList bs st δ j).fr, B.T⟩) (D := fun t => decide (o.dst = some t)) hti ?_ ho (calm_mem hc hmem) (fun d hd => by simp [hd]) hrun
        ⟨StepB.refl hBj, hFj, rfl, fun _ _ => rfl, ⟨[], rfl⟩, ⟨[], rfl⟩, Mk.refl⟩ hdf ?_
      · intro t ht
        have ht : o.dst = some t := of_decide_eq_true ht
        have := hD t (hdst t (mem_opsDsts hmem ht))
        show t < a.tmps.size
        rw [hi.asize]; exact this
      · intro μ' S' w' st0 a' hn0 hst hdf'
        have hn' := splitG_now hn0 hst
        clear hn0 hst
        obtain ⟨ε, hε⟩ := hn'.ext
        obtain ⟨φ, hφ⟩ := hn'.fext
        have hε : st'.bl = ε ++ (srOf ops.toList bs st δ j).bl := hε
        have hφ : st'.fr = φ ++ (srOf ops.toList bs st δ j).fr := hφ
        have hδb : (δ j).bl = ε := by rw [hδ]; show stake _ st'.bl = ε; rw [hε, stake_app]
        have hδf : (δ j).fr = φ := by rw [hδ]; show stake _ st'.fr = φ; rw [hφ, stake_app]
        have hδn : nuOf st.nb δ (j + 1) = st'.nb := by rw [nuOf, hδ]
        have hstep := hn'.step
        have hfr := hn'.fr
        rw [hε, ← hδb] at hstep
        rw [hφ, ← hδf] at hfr
        have hset : ∀ i, (listed.setIfInBounds j true).getD i false = true ↔ i = j ∨ listed.getD i false = true := by
          intro i
          by_cases hij : i = j
          · subst hij; simp [hjlt]
          · rw [getD_set_ne false (fun e => hij e.symm)]
            simp [hij]
        refine ih _ _ S' w' a' (by simpa using hsz) ?_ (hi.done hP hjl hjE hsee hpre hset hn.step.2.2.1 (by rw [hδn]; exact hstep) hfr hn'.size (fun t ht => hn'.keep t (by rw [hdo] at ht; simp [ht])) (fun t ht => by
          rw [hdo] at ht; exact hdst t (mem_opsDsts hmem ht)) hn'.mks) hdf'
        have := cnt_less (f := fun i => listed.getD i false) (g := fun i => (listed.setIfInBounds j true).getD i false) (fun i hh => (hset i).2 (.inr hh)) (j := j) hjE ((hset j).2 (.inl rfl)) (n := ops.size) hjs
        omega
  have hE0 : ∀ i, (Array.replicate ops.size false).getD i false = false := by
    intro i
    rw [Array.getD_eq_getD_getElem?]
    by_cases hi : i < ops.size
    · simp [hi]
    · simp [hi]
  have hJ0 : ∀ {α : Type} {f : Dlt → List (Nat × α)}, J f δ (fun i => (Array.replicate ops.size false).getD i false) ops.toList.length = [] := J_empty fun i _ => hE0 i
  have hB := hn.step.1
  refine main ops.size _ μ S _ a (by simp) ?_ ?_ hdf
  · have : ∀ (f : Nat → Bool) n, cnt f n ≤ n := by
      intro f n
      induction n with
      | zero => exact Nat.le_refl _
      | succ n ih => rw [cnt]; cases f n <;> simp only [cond_true, cond_false] <;> omega
    exact this _ _
  · have none : ∀ {i} {T : Prop}, (Array.replicate ops.size false).getD i false = true → T := fun h => by rw [hE0] at h; cases h
    refine ⟨fun i _ h => none h, ?_, ?_, ?_, hB.sb, hB.gl.move (fun _ h => h) (fun _ _ => rfl), ?_, hn.step.2.2.2, fun k p hk => .inl (hB.dom k p hk), fun i _ h => none h, fun k x hk => RB.below hB.dom (hB.blk k x hk), fun i _ h => none h, fun t v ht => RV.below hB.dom (hn.fr.slot t v ht), fun i _ h => none h, fun t v ht _ => RV.move (w := w) (w' := { w with drawn := w.drawn + 1 }) (fun _ _ h => h) (fun _ h => h) (fun _ _ => rfl) (hn.fr.slot t v ht), hn.mks, hn.size, hn.keep⟩
    · intro k x hk
      rw [hJ0] at hk
      exact RB.move (w := w) (w' := { w with drawn := w.drawn + 1 }) (fun _ _ h => h) (fun _ h => h) (fun _ _ => rfl) (fun _ _ _ _ => rfl) (hB.blk k x hk)
    · intro b hb; rw [hJ0] at hb; exact hB.old b hb
    · intro k k' x x' p p' hk hk'; rw [hJ0] at hk hk'; exact hB.inj k k' x x' p p' hk hk'
    · rw [hJ0]
      have he := hn.step.2.1
      exact ⟨he.os, he.tape, ⟨he.output.1, Nat.le_succ_of_le he.output.2⟩, he.size, he.same, he.sub, he.new, he.liv, he.mu⟩

end

section
variable {P : Program} {B : Base} {D : Nat → Bool} {L : Lib}
theorem evR_ok (hT : ∀ t, TiOk P L.ti t) (hord : P.follows .mixedOrders = true) (hD : ∀ t, D t = true → t < B.a.tmps.size) {l m : Nat} {df : List Deferred} : ∀ {c : Code} {μ : Nat → Option At} {S : Nat → Prop} {w : World} {st st' : St} {a : Act} {Q : Exit → Act → World → Prop},
    evR L c st = some st' → (∀ t ∈ dstsOf c, D t = true) → Now B D μ S w st a → a.defers = df → (∀ μ' S' w' a', Now B D μ' S' w' st' a' → a'.defers = df → Q .normal a' w') →
    c.wpIn (Fence.wide.inRound l) m P Q a w
  | .skip, μ, S, w, st, st', a, Q, h, _, hn, hd, hK => by cases h; exact wpIn_skip (hK _ _ _ _ hn hd)
  | .region i ops false, μ, S, w, st, st', a, Q, h, ho, hn, hd, hK => by
    refine wpIn_region_list (opsS_ok hT hD h (fun o hin d hd => ho d ?_) hn hd hK)
    exact mem_opsDsts (by simpa using hin) hd
  | .region i ops true, μ, S, w, st, st', a, Q, h, ho, hn, hd, hK => by
    obtain ⟨hc, h⟩ := condT h
    exact drawOpsIn_ok hT hord hD hc ho hK h hn hd
  | .seq x y, μ, S, w, st, st', a, Q, h, ho, hn, hd, hK => by
    obtain ⟨s1, h1, h⟩ := ob_some h
    exact wpIn_seq (evR_ok hT hord hD h1 (fun t ht => ho t (by rw [dstsOf, sapp_eq]; simp [ht])) hn hd fun _ _ _ _ hn' hd' => evR_ok hT hord hD h (fun t ht => ho t (by rw [dstsOf, sapp_eq]; simp [ht])) hn' hd' hK)
  | .block i c, μ, S, w, st, st', a, Q, h, ho, hn, hd, hK => wpIn_block (evR_ok hT hord hD h ho hn hd hK)
  | .cond _ _ _, _, _, _, _, _, _, _, h, _, _, _, _ => by cases h
  | .loop _, _, _, _, _, _, _, _, h, _, _, _, _ => by cases h
  | .scope _, _, _, _, _, _, _, _, h, _, _, _, _ => by cases h
  | .rangeFunc _ _ _ _, _, _, _, _, _, _, _, h, _, _, _, _ => by cases h
  | .exit _, _, _, _, _, _, _, _, h, _, _, _, _ => by cases h
  | .ret, _, _, _, _, _, _, _, h, _, _, _, _ => by cases h
  | .goto _, _, _, _, _, _, _, _, h, _, _, _, _ => by cases h
  | .label _, _, _, _, _, _, _, _, h, _, _, _, _ => by cases h
end

/-- The one new row has the next number. -/
theorem StepB.recastL {μ μ1 : Nat → Option At} {S S1 : Nat → Prop} {w W : World} {bl bl1 : List (Nat × Blk)} {nb nb1 : Nat} (h0 : SimB μ S w bl nb) (h : StepB μ S w bl nb μ1 S1 W bl1 nb1) {k j : Nat} {e : Ty} {v : AV} {xs : List e.den}
    (hk : lk bl k = some (.box v)) (hk1 : lk bl1 k = some (.box (.own j))) (hj : lk bl1 j = some (.row e xs)) (hjn : nb ≤ j) (hrest : ∀ i, i < nb → i ≠ k → lk bl1 i = lk bl i) :
    ∃ μ2, StepB μ S w bl nb μ2 S1 W ((k, .box (.own nb)) :: (nb, .row e xs) :: bl) (nb + 1) ∧ ∀ b, Liv μ2 ((k, Blk.box (.own nb)) :: (nb, .row e xs) :: bl) b → Liv μ1 bl1 b := by
  have hlt : ∀ {i x}, lk bl i = some x → x ≠ .dead → i < nb := by
    intro i x hi hx
    have hr := h0.blk i x hi
    cases x with
    | box v => obtain ⟨p, hp, _⟩ := hr; exact h0.dom _ _ hp
    | row e xs => obtain ⟨p, hp, _⟩ := hr; exact h0.dom _ _ hp
    | vals n sz vs => obtain ⟨p, hp, _⟩ := hr; exact h0.dom _ _ hp
    | map kt vt es => obtain ⟨p, hp, _⟩ := hr; exact h0.dom _ _ hp
    | dead => exact absurd rfl hx
  have hkn : k < nb := hlt hk (by simp)
  let μ2 : Nat → Option At := fun i => if i < nb then μ1 i else if i = nb then μ1 j else none
  have m1 : ∀ i, i < nb → μ2 i = μ1 i := fun i hi => if_pos hi
  have m2 : μ2 nb = μ1 j := by show (if nb < nb then _ else _) = _; rw [if_neg (Nat.lt_irrefl _), if_pos rfl]
  have hm : ∀ n p, μ n = some p → μ2 n = μ1 n := fun n p hp => m1 n (h0.dom _ _ hp)
  -- where a block of the new list is in the old one
  have tr : ∀ {i x}, lk ((k, Blk.box (.own nb)) :: (nb, .row e xs) :: bl) i = some x → x ≠ .dead → ∃ i' x', lk bl1 i' = some x' ∧ x' ≠ .dead ∧ μ2 i = μ1 i' ∧ i' = (if i = nb then j else i) ∧ i ≤ nb := by
    intro i x hi hx
    rw [lk_cons, lk_cons] at hi
    by_cases h1 : k = i
    · subst h1
      exact ⟨k, _, hk1, by simp, m1 k hkn, by rw [if_neg (by omega)], by omega⟩
    · rw [if_neg h1] at hi
      by_cases h2 : nb = i
      · subst h2
        exact ⟨j, _, hj, by simp, m2, by rw [if_pos rfl], by omega⟩
      · rw [if_neg h2] at hi
        have hin := hlt hi hx
        exact ⟨i, x, (hrest i hin (fun e => h1 e.symm)).trans hi, hx, m1 i hin, by rw [if_neg (by omega)], by omega⟩
  have hliv : ∀ b, Liv μ2 ((k, Blk.box (.own nb)) :: (nb, .row e xs) :: bl) b → Liv μ1 bl1 b := by
    rintro b ⟨i, x, p, hi, hx, hp, hn, hb⟩
    obtain ⟨i', x', h1, h2, h3, _⟩ := tr hi hx
    exact ⟨i', x', p, h1, h2, h3 ▸ hp, hn, hb⟩
  have hs := h.2.1
  refine ⟨μ2, ⟨⟨?_, ?_, fun b hb => h.1.old b (hliv b hb), ?_, h.1.sb, h.1.gl⟩, ⟨hs.os, hs.tape, hs.output, hs.size, hs.same, hs.sub, hs.new, fun b hb => hs.liv b (hliv b hb), fun n p hp => (hm n p hp).trans (hs.mu n p hp)⟩, by omega, fun i hi => (m1 i hi).trans (h.2.2.2 i hi)⟩, hliv⟩
  · intro i p hp
    by_cases h1 : i < nb
    · omega
    · have hp : (if i < nb then μ1 i else if i = nb then μ1 j else none) = some p := hp
      rw [if_neg h1] at hp
      by_cases h2 : i = nb
      · omega
      · rw [if_neg h2] at hp; cases hp
  · intro i x hi
    rw [lk_cons, lk_cons] at hi
    by_cases h1 : k = i
    · subst h1
      rw [if_pos rfl] at hi; cases hi
      obtain ⟨p, hp, hn, cs, ty, hc, q, hq, he⟩ := h.1.blk k _ hk1
      exact ⟨p, (m1 k hkn).trans hp, hn, cs, ty, hc, q, m2.trans hq, he⟩
    · rw [if_neg h1] at hi
      by_cases h2 : nb = i
      · subst h2
        rw [if_pos rfl] at hi; cases hi
        obtain ⟨p, hp, hn⟩ := h.1.blk j _ hj
        exact ⟨p, m2.trans hp, hn⟩
      · rw [if_neg h2] at hi
        by_cases hx : x = .dead
        · subst hx; trivial
        · have hin := hlt hi hx
          exact RB.swap hm (h0.blk i x hi) (h.1.blk i x ((hrest i hin (fun e => h1 e.symm)).trans hi))
  · intro i i' x x' p p' hi hi' hx hx' hp hp' hn hn' hb
    obtain ⟨a, y, g1, g2, g3, g4, g5⟩ := tr hi hx
    obtain ⟨a', y', k1, k2, k3, k4, k5⟩ := tr hi' hx'
    have := h.1.inj a a' y y' p p' g1 k1 g2 k2 (g3 ▸ hp) (k3 ▸ hp') hn hn' hb
    rw [g4, k4] at this
    split at this <;> split at this <;> omega

theorem rng_law3 {P : Program} {L : Lib} (hT : ∀ t, TiOk P L.ti t) (hord : P.follows .mixedOrders = true) {t p p2 : Nat} {assign body : Code} {μ : Nat → Option At} {S : Nat → Prop} {w : World} {st st' : St} {a : Act} (h0 : SimB μ S w st.bl st.nb) (hf : SimF μ S w st.fr a)
    {g : Nat} {caps : List Value} (hg : a.tmps.getD t undef = .func (.func g) #[] caps.toArray) (eg : ∀ args w, (callFunc g args).run P w = .ok (.enter g args) w)
    {α : Type} {enc enc2 : α → Value} {encA encA2 : α → AV} (henc : ∀ x μ S w, RV μ S w (encA x) (enc x)) (henc2 : ∀ x μ S w, RV μ S w (encA2 x) (enc2 x)) {xs : List α} {N : Nat} (hit : IterOk2 P g caps enc enc2 xs N S w)
    (hdst : ∀ d ∈ dstsOf (.rangeFunc (.tmp t) #[p, p2] assign body), d < a.tmps.size)
    {fr0 : List (Nat × AV)} (hfr0 : ∀ t v, lk fr0 t = some v → lk st.fr t = some v) {can : List α → List (Nat × Blk)} {ncan : Nat}
    (hR0 : ∃ μ1 S1, StepB μ S w st.bl st.nb μ1 S1 w (can []) ncan)
    (hstep : ∀ pre x, pre.length < N → ∃ s1 s2, evR L assign ⟨(p2, encA2 x) :: (p, encA x) :: fr0, can pre, ncan⟩ = some s1 ∧ evR L body s1 = some s2 ∧
      ∀ μ' S' W, StepB μ S w st.bl st.nb μ' S' W s2.bl s2.nb → ∃ μ'', StepB μ S w st.bl st.nb μ'' S' W (can (pre ++ [x])) ncan ∧ ∀ b, Liv μ'' (can (pre ++ [x])) b → Liv μ' s2.bl b)
    (hfin : st'.bl = can xs ∧ st'.nb = ncan)
    (hfr : st'.fr = st.fr) (hext : ∃ ε, st'.bl = ε ++ st.bl) :
    (Code.rangeFunc (.tmp t) #[p, p2] assign body).wp P (fun e a' w' => e = .normal ∧ a'.tmps = a.tmps ∧ ∃ D μ' S', a'.defers = mark D :: a.defers ∧ w.heap.size ≤ D ∧ ¬ S' D ∧ w'.heap[D]? = some (.deferred (some [])) ∧
      StepB μ S w st.bl st.nb μ' S' w' st'.bl st'.nb ∧ SimF μ' S' w' st'.fr a ∧ (∃ ε, st'.bl = ε ++ st.bl) ∧ ∃ φ, st'.fr = φ ++ st.fr) a w := by
  refine (wpIn_wide (n := 5)).1 (wpIn_rangeFunc ?_)
  intro fn hfn
  obtain ⟨rec, hrec⟩ : ∃ rec : LoopState → Option Code → Loop, rec = fun st pe => { state := st, pending := pe, fn, tmps := a.tmps, params := #[p, p2], assign, body, defers := w.heap.size } := ⟨_, rfl⟩
  obtain ⟨W1, hW1⟩ : ∃ W1, (w.alloc (.deferred (some []))).alloc (.loop (rec .ready none)) = W1 := ⟨_, rfl⟩
  have hL1 : W1.heap[w.heap.size + 1]? = some (.loop (rec .ready none)) := by
    rw [← hW1]; have := World.alloc_heap_new (w.alloc (.deferred (some []))) (.loop (rec .ready none)); rwa [World.size_alloc] at this
  have hK1 : W1.heap[w.heap.size]? = some (.deferred (some [])) := by
    rw [← hW1]; exact (Below.heap_alloc _ _ _ (by simp)).trans (World.alloc_heap_new w _)
  have hs1 : W1.heap.size = w.heap.size + 2 := by rw [← hW1]; simp
  have hpl : p < a.tmps.size := hdst p (by simp [dstsOf, sapp])
  have hpl2 : p2 < a.tmps.size := hdst p2 (by simp [dstsOf, sapp])
  have hda : ∀ d ∈ dstsOf assign, Nat.blt d a.tmps.size = true := fun d hd => by rw [Nat.blt_eq]; exact hdst d (by simp only [dstsOf, sapp_eq]; simp [hd])
  have hdb : ∀ d ∈ dstsOf body, Nat.blt d a.tmps.size = true := fun d hd => by rw [Nat.blt_eq]; exact hdst d (by simp only [dstsOf, sapp_eq]; simp [hd])
  obtain ⟨μ0, S0, hst0⟩ := hR0
  have hnl : ∀ D : Nat, w.heap.size ≤ D → ¬ S0 D ∧ ¬ Liv μ0 (can []) D := fun D hD =>
    ⟨fun h => by have := hst0.1.sb D h; omega, fun h => by have := (hst0.1.old D h).1; omega⟩
  have hst1 : StepB μ S w st.bl st.nb μ0 S0 W1 (can []) ncan := by
    rw [← hW1]
    exact (hst0.grow (World.grownBy_alloc _ _ _) (Nat.le_refl _)).grow (World.grownBy_alloc _ _ _) (Nat.le_refl _)
  refine ⟨w.heap.size + 1, [mark w.heap.size], W1, { target := .fn (.func g) caps.toArray, args := #[.func (.yield (w.heap.size + 1)) #[] #[]] }, W1, g,
    #[.func (.yield (w.heap.size + 1)) #[] #[]] ++ caps.toArray, W1, ?_, ?_, fun _ _ => trivial, ?_, fun _ => by omega, ?_⟩
  · rw [← hW1, hrec]; exact run_enterLoop_outer _ _ _ _ _
  · have hg' : a.eval (.tmp t) = .func (.func g) #[] caps.toArray := hg
    simp only [resolve, hg']
    simp [go_sem]
  · simp [invoke, go_sem, eg]
  · let J : List α → World → Prop := fun pre W => ∃ μ' S', StepB μ S w st.bl st.nb μ' S' W (can pre) ncan ∧ (¬ S' (w.heap.size + 1) ∧ ¬ Liv μ' (can pre) (w.heap.size + 1) ∧ W.heap[w.heap.size + 1]? = some (.loop (rec .ready none))) ∧
      (¬ S' w.heap.size ∧ ¬ Liv μ' (can pre) w.heap.size ∧ W.heap[w.heap.size]? = some (.deferred (some [])))
    refine (hit 4 (w.heap.size + 1) J W1 (by omega) ?_ ?_ ?_ ⟨μ0, S0, hst1, ⟨(hnl _ (by omega)).1, (hnl _ (by omega)).2, hL1⟩, ⟨(hnl _ (by omega)).1, (hnl _ (by omega)).2, hK1⟩⟩).mono ?_
    · rintro s A A' ⟨μ', S', hs, ⟨k1, k2, k3⟩, ⟨k4, k5, k6⟩⟩ hgr hgd
      exact ⟨μ', S', hs.grow hgr hgd, ⟨k1, k2, (hgr.block _ (Array.getElem?_eq_some_iff.1 k3).1 (by simp)).trans k3⟩, ⟨k4, k5, (hgr.block _ (Array.getElem?_eq_some_iff.1 k6).1 (by simp)).trans k6⟩⟩
    · rintro s A ⟨μ', S', hs, _⟩
      exact ⟨hs.2.1.size, hs.still h0⟩
    · rintro pre x W ⟨μ', S', hs, ⟨k1, k2, k3⟩, ⟨k4, k5, k6⟩⟩ hlen
      obtain ⟨s1, s2, e1, e2, hR2⟩ := hstep pre x hlen
      have hy : (Instr.yield (w.heap.size + 1) #[enc x, enc2 x]).run P W = .ok (.round (w.heap.size + 1) fn ((a.tmps.setIfInBounds p (enc x)).setIfInBounds p2 (enc2 x)) assign body) W := by
        have h := run_yield (P := P) (args := #[enc x, enc2 x]) k3 (by rw [hrec]; rfl)
        rw [hrec] at h
        simpa using h
      refine ⟨fn, _, assign, body, hy, roundIn_of_wpIn hfn ?_⟩
      have hsz : ((a.tmps.setIfInBounds p (enc x)).setIfInBounds p2 (enc2 x)).size = a.tmps.size := by simp
      have hfA : SimF μ' S' W fr0 a := ⟨fun i v hv => (hf.step h0 hs).slot i v (hfr0 i v hv)⟩
      -- the assignments
      let B1 : Base := ⟨μ', S', W, can pre, ncan, ⟨(a.tmps.setIfInBounds p (enc x)).setIfInBounds p2 (enc2 x), []⟩, (p2, encA2 x) :: (p, encA x) :: fr0, False⟩
      have n1 : Now B1 (fun d => Nat.blt d a.tmps.size) μ' S' W ⟨(p2, encA2 x) :: (p, encA x) :: fr0, can pre, ncan⟩ ⟨(a.tmps.setIfInBounds p (enc x)).setIfInBounds p2 (enc2 x), []⟩ :=
        ⟨StepB.refl hs.1, ⟨fun i v hv => (SimF.put (show SimF μ' S' W ((p, encA x) :: fr0) ⟨a.tmps.setIfInBounds p (enc x), []⟩ from ⟨fun i v hv => (SimF.put hfA hpl (henc x _ _ _)).slot i v hv⟩) (by show p2 < (a.tmps.setIfInBounds p (enc x)).size; simpa using hpl2) (henc2 x _ _ _)).slot i v hv⟩, rfl, fun _ _ => rfl, ⟨[], rfl⟩, ⟨[], rfl⟩, Mk.refl⟩
      refine evR_ok hT hord (B := B1) (D := fun d => Nat.blt d a.tmps.size) (fun d hd => by show d < ((a.tmps.setIfInBounds p (enc x)).setIfInBounds p2 (enc2 x)).size; rw [hsz]; exact (Nat.blt_eq ▸ hd : d < a.tmps.size)) (df := []) e1 hda n1 rfl ?_
      intro μ2 S2 W2 a2 n2 hd2
      have hs2 := n2.step
      have l1 := StepB.lies hs.1 hs2 k3 k1 k2
      have l2 := StepB.lies hs.1 hs2 k6 k4 k5
      have hlt2 := (Array.getElem?_eq_some_iff.1 l1.2.2).1
      obtain ⟨W3, hW3⟩ : ∃ W3, W2.putObj (w.heap.size + 1) (.loop { rec .ready none with state := .busy }) = W3 := ⟨_, rfl⟩
      refine ⟨W3, by rw [← hW3]; exact run_beginRound l1.2.2 (by rw [hrec]), ?_⟩
      have hs3 : StepB μ S w st.bl st.nb μ2 S2 W3 s1.bl s1.nb := by rw [← hW3]; exact (hs.trans hs2).putObj (by omega) l1.1 l1.2.1
      have g1 : W3.heap[w.heap.size + 1]? = some (.loop { rec .ready none with state := .busy }) := by rw [← hW3]; exact World.putObj_heap_same hlt2
      have g2 : W3.heap[w.heap.size]? = some (.deferred (some [])) := by rw [← hW3]; exact (World.putObj_heap_other (by omega)).trans l2.2.2
      have hS3 : ∀ b, S2 b → W3.heap[b]? = W2.heap[b]? := fun b hb => by
        rw [← hW3]; exact World.putObj_heap_other fun e => l1.1 (e ▸ hb)
      -- the body
      let B2 : Base := ⟨μ2, S2, W3, s1.bl, s1.nb, a2, s1.fr, False⟩
      have n3 : Now B2 (fun d => Nat.blt d a.tmps.size) μ2 S2 W3 s1 a2 :=
        ⟨StepB.refl hs3.1, ⟨fun i v hv => RV.move (fun _ _ h => h) (fun _ h => h) hS3 (n2.fr.slot i v hv)⟩, rfl, fun _ _ => rfl, ⟨[], rfl⟩, ⟨[], rfl⟩, Mk.refl⟩
      refine evR_ok hT hord (B := B2) (D := fun d => Nat.blt d a.tmps.size) (fun d hd => by show d < a2.tmps.size; rw [n2.size]; show d < ((a.tmps.setIfInBounds p (enc x)).setIfInBounds p2 (enc2 x)).size; rw [hsz]; exact (Nat.blt_eq ▸ hd : d < a.tmps.size)) (df := []) e2 hdb n3 hd2 ?_
      intro μ4 S4 W4 a4 n4 hd4
      have hs4 := n4.step
      have m1 := StepB.lies hs3.1 hs4 g1 l1.1 l1.2.1
      have m2 := StepB.lies hs3.1 hs4 g2 l2.1 l2.2.1
      have hlt4 := (Array.getElem?_eq_some_iff.1 m1.2.2).1
      have hend := run_endRound (P := P) none m1.2.2
      obtain ⟨μ5, hs5, hl5⟩ := hR2 _ _ _ (hs3.trans hs4)
      have m1l : ¬ Liv μ5 (can (pre ++ [x])) (w.heap.size + 1) := fun h => m1.2.1 (hl5 _ h)
      have m2l : ¬ Liv μ5 (can (pre ++ [x])) w.heap.size := fun h => m2.2.1 (hl5 _ h)
      refine ⟨_, _, hend, rfl, μ5, S4, hs5.putObj (by omega) m1.1 m1l, ⟨m1.1, m1l, ?_⟩, ⟨m2.1, m2l, (World.putObj_heap_other (by omega)).trans m2.2.2⟩⟩
      rw [World.putObj_heap_same hlt4, hrec]
      rfl
    · rintro e W ⟨⟨v, rfl⟩, μ', S', hs, ⟨k1, k2, k3⟩, ⟨k4, k5, k6⟩⟩
      have hend := run_endLoop (P := P) k3 (by rw [hrec]; simp)
      have hpe : (rec .ready none).pending = none := by rw [hrec]
      obtain ⟨W5, hW5⟩ : ∃ W5, W.putObj (w.heap.size + 1) (.loop { rec .ready none with state := .exhausted }) = W5 := ⟨_, rfl⟩
      have hs5 : StepB μ S w st.bl st.nb μ' S' W5 (can xs) ncan := by rw [← hW5]; exact hs.putObj (by omega) k1 k2
      have k7 : W5.heap[w.heap.size]? = some (.deferred (some [])) := by rw [← hW5]; exact (World.putObj_heap_other (by omega)).trans k6
      have hend5 : (Instr.endLoop (w.heap.size + 1)).run P W = .ok none W5 := by rw [← hW5, hend]; simp only [hpe]
      have hs6 : StepB μ S w st.bl st.nb μ' S' W5 st'.bl st'.nb := by rw [hfin.1, hfin.2]; exact hs5
      refine ⟨none, W5, hend5, rfl, rfl, w.heap.size, ?_⟩
      refine ⟨μ', S', rfl, Nat.le_refl _, k4, k7, hs6, ?_, hext, ⟨[], by rw [hfr]; rfl⟩⟩
      rw [hfr]
      exact hf.step h0 hs6


end Go.Pv
