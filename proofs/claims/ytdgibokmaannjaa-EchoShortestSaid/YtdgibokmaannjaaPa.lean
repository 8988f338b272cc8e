/- A pure reading of the model's code, and that the run does what it says: part a. -/
import Derived.Calls
import Derived.KernelRfl
import Derived.Laws.AppendOwn
import Derived.Below
import Derived.MapKept
import Derived.RangeFuncRecord
import Derived.Laws.Entries
/- A pure reading of the model's code: values, states, and the function that runs a code on states. No proof here. -/
set_option linter.unusedVariables false
namespace Go.Pv

inductive Ty where
  | int (k : IntKind)
  | bool
  | str
  | sl (e : Ty)
  | arr (n : Nat) (e : Ty)
  | pr (a b : Ty)
  | un
  | err
  | np

@[reducible] def Ty.den : Ty → Type
  | .int _ => Int
  | .bool => Bool
  | .str => ByteArray
  | .sl e => List e.den
  | .arr _ e => List e.den
  | .pr a b => a.den × b.den
  | .un => Unit
  | .err => Int
  | .np => Unit

def Ty.dflt : (t : Ty) → t.den
  | .int _ => (0 : Int)
  | .bool => false
  | .str => ByteArray.empty
  | .sl _ => []
  | .arr n e => List.replicate n e.dflt
  | .pr a b => (a.dflt, b.dflt)
  | .un => ()
  | .err => (0 : Int)
  | .np => ()

/-- What lies in memory from the start on: blocks, and what their cells are. -/
def glob : List (Nat × (List Value → Prop)) := []

/-- The type of the errors that are told by a number. -/
def errTid : Nat := 0

/-- How many cells. -/
def Ty.size : Ty → Nat
  | .int _ | .bool | .str | .sl _ | .err | .np => 1
  | .arr n e => Nat.mul n e.size
  | .pr a b => Nat.add a.size b.size
  | .un => 0

/-- Are its values aggregates? -/
def Ty.agg : Ty → Bool
  | .arr _ _ | .pr _ _ | .un => true
  | _ => false

/-- Numbers, one behind the other. -/
def Ty.nums : Ty → Bool
  | .int _ => true
  | .pr (.int _) b => b.nums
  | .un => true
  | _ => false

/-- Does nothing in it lead to memory? -/
def Ty.flat : Ty → Bool
  | .sl _ => false
  | .arr _ e => e.flat
  | .pr a b => a.flat && b.flat
  | _ => true

structure Is (a b : Ty) : Type where
  out : a = b

structure KIs (a b : IntKind) : Type where
  out : a = b
def ksame : (a b : IntKind) → Option (KIs a b)
  | .i8, .i8 => some ⟨rfl⟩
  | .i16, .i16 => some ⟨rfl⟩
  | .i32, .i32 => some ⟨rfl⟩
  | .i64, .i64 => some ⟨rfl⟩
  | .u8, .u8 => some ⟨rfl⟩
  | .u16, .u16 => some ⟨rfl⟩
  | .u32, .u32 => some ⟨rfl⟩
  | .u64, .u64 => some ⟨rfl⟩
  | _, _ => none
structure NIs (a b : Nat) : Type where
  out : a = b
def nsame (a b : Nat) : Option (NIs a b) :=
  match h : Nat.beq a b with
  | true => some ⟨Nat.eq_of_beq_eq_true h⟩
  | false => none

def Ty.same : (a b : Ty) → Option (Is a b)
  | .int j, .int k => match ksame j k with
    | some h => some ⟨by rw [h.out]⟩
    | none => none
  | .bool, .bool => some ⟨rfl⟩
  | .str, .str => some ⟨rfl⟩
  | .sl a, .sl b => match Ty.same a b with
    | some h => some ⟨by rw [h.out]⟩
    | none => none
  | .arr n a, .arr m b => match nsame n m with
    | some hn => match Ty.same a b with
      | some h => some ⟨by rw [h.out, hn.out]⟩
      | none => none
    | none => none
  | .pr a b, .pr c d => match Ty.same a c with
    | some h => match Ty.same b d with
      | some g => some ⟨by rw [h.out, g.out]⟩
      | none => none
    | none => none
  | .un, .un => some ⟨rfl⟩
  | .err, .err => some ⟨rfl⟩
  | .np, .np => some ⟨rfl⟩
  | _, _ => none

def Ty.as {a b : Ty} (h : a = b) (x : a.den) : b.den := h ▸ x

/-- Are two data equal (map keys, '==')? Of slices it says nothing. -/
def Ty.beq : (t : Ty) → t.den → t.den → Bool
  | .int _, x, y => decide ((x : Int) = y)
  | .bool, x, y => x == y
  | .str, x, y => x == y
  | .sl _, _, _ => false
  | .arr _ e, x, y => x.length == y.length && (x.zip y).all fun p => e.beq p.1 p.2
  | .pr a b, x, y => a.beq x.1 y.1 && b.beq x.2 y.2
  | .un, _, _ => true
  | .err, _, _ => false
  | .np, _, _ => false

/-- What a slot or a variable's cells hold. 'own k': the slice that is block k's whole row. 'ptr k o': a variable's cell. 'rptr': an address inside row k, 'aptr': inside the array that lies at cell o of variable k: with what lies there and how it is changed. 'vptr': a cell of an element of a literal row of values. 'iptr': an address in memory that is never written, with what lies there. -/
inductive AV where
  | dat (t : Ty) (x : t.den)
  | own (k : Nat)
  | nil
  | ptr (k off : Nat)
  | rptr (k : Nat) (e t : Ty) (get : List e.den → t.den) (put : List e.den → t.den → List e.den)
  | aptr (k off : Nat) (n : Nat) (e t : Ty) (get : List e.den → t.den) (put : List e.den → t.den → List e.den)
  | vptr (k sz i off : Nat)
  | iptr (t : Ty) (x : t.den)
  | fn (f : Nat) (cap : AV)
  | nilfn
  | mp (k : Nat)
  | pr (a b : AV)
  | cons (a b : AV)
  | un
  | junk

inductive Blk where
  | box (v : AV)
  | row (e : Ty) (xs : List e.den)
  | vals (n sz : Nat) (vs : AV)
  | map (kt vt : Ty) (es : List (kt.den × vt.den))
  | dead

structure St where
  fr : List (Nat × AV)
  bl : List (Nat × Blk)
  nb : Nat

def lk.{u} {α : Type u} (l : List (Nat × α)) (k : Nat) : Option α :=
  match l with
  | [] => none
  | p :: r => cond (Nat.beq p.1 k) (some p.2) (lk r k)

def sapp {α : Type} : List α → List α → List α
  | [], m => m
  | x :: l, m => x :: sapp l m
def slen {α : Type} : List α → Nat
  | [] => 0
  | _ :: l => Nat.add (slen l) 1
def stake {α : Type} : Nat → List α → List α
  | 0, _ => []
  | _ + 1, [] => []
  | n + 1, x :: l => x :: stake n l
def smap {α β : Type} (f : α → β) : List α → List β
  | [] => []
  | x :: l => f x :: smap f l
def snth {α : Type} : List α → Nat → Option α
  | [], _ => none
  | x :: _, 0 => some x
  | _ :: l, n + 1 => snth l n
def sall {α : Type} (p : α → Bool) : List α → Bool
  | [] => true
  | x :: l => cond (p x) (sall p l) false
def srev {α : Type} : List α → List α → List α
  | [], m => m
  | x :: l, m => srev l (x :: m)
def sflat {α : Type} : List (List α) → List α
  | [] => []
  | x :: l => sapp x (sflat l)
def sempty {α : Type} : List α → Bool
  | [] => true
  | _ => false
def srange : Nat → Nat → List Nat
  | _, 0 => []
  | i, n + 1 => i :: srange (Nat.add i 1) n
def skeep {α β : Type} (f : α → Option β) : List α → List β
  | [] => []
  | x :: l => match f x with
    | some y => y :: skeep f l
    | none => skeep f l

def ob.{u, v} {α : Type u} {β : Type v} (o : Option α) (f : α → Option β) : Option β :=
  match o with
  | some x => f x
  | none => none

def AV.size : AV → Nat
  | .dat t _ => t.size
  | .pr a b => Nat.add a.size b.size
  | .un => 0
  | _ => 1

def AV.agg : AV → Bool
  | .dat t _ => t.agg
  | .pr _ _ | .un => true
  | _ => false

/-- Two values in line; data stay data. -/
def AV.mk (a b : AV) : AV :=
  match a, b with
  | .dat s x, .dat t y => .dat (.pr s t) (x, y)
  | .dat s x, .un => .dat (.pr s .un) (x, ())
  | a, b => .pr a b

/-- A value as its two parts. -/
def AV.two : AV → Option (AV × AV)
  | .dat (.pr s t) x => some (.dat s x.1, .dat t x.2)
  | .pr a b => some (a, b)
  | _ => none

/-- The n-th of a list of values. -/
def AV.nth : AV → Nat → Option AV
  | .cons a _, 0 => some a
  | .cons _ b, n + 1 => AV.nth b n
  | _, _ => none

/-- Two lists of values, one behind the other. -/
def AV.app : AV → AV → AV
  | .cons a b, c => .cons a (AV.app b c)
  | _, c => c

/-- The datum of a value, if it is one of this type; the rows of the call's own that go into it. -/
def AV.take (bl : List (Nat × Blk)) : (t : Ty) → AV → Option (t.den × List Nat)
  | t, .dat s x => match Ty.same s t with
    | some h => some (Ty.as h.out x, [])
    | none => none
  | .sl _, .nil => some ([], [])
  | .sl e, .own k => match lk bl k with
    | some (.row e' xs) => match Ty.same (.sl e') (.sl e) with
      | some h => some (Ty.as h.out xs, [k])
      | none => none
    | _ => none
  | .pr a b, .pr u v => ob (AV.take bl a u) fun p => ob (AV.take bl b v) fun q => some ((p.1, q.1), sapp p.2 q.2)
  | .un, .un => some ((), [])
  | _, _ => none

inductive TK where
  | plain
  | slice (elem : Nat)
  | array (n elem : Nat)
  | struct (fields : List (Nat × Nat))
  | map (key val : Nat)
  | other
  | iface
  | ptr (elem : Nat)

/-- Of a type: its data ('pure': whether it has any), its kind (a struct's fields: cell and type), its cells, its bytes, whether its values are aggregates, its zero value. -/
structure TI where
  pure : Bool
  ty : Ty
  k : TK
  size : Nat
  bytes : Nat
  agg : Bool
  zero : AV

def kill (ks : List Nat) (bl : List (Nat × Blk)) : List (Nat × Blk) :=
  match ks with
  | [] => bl
  | k :: r => (k, .dead) :: kill r bl

def has (l : List Nat) (k : Nat) : Bool :=
  match l with
  | [] => false
  | j :: r => cond (Nat.beq j k) true (has r k)

def fuel0 : Nat := 40
def and3 (a b c : Bool) : Bool := cond a (cond b c false) false
def beqB : Bool → Bool → Bool
  | true, true => true
  | false, false => true
  | _, _ => false

/-- The part of n cells from cell off on; g: an aggregate? -/
def AV.sub (off n : Nat) (g : Bool) : Nat → AV → Option AV
  | 0, _ => none
  | f + 1, v => cond (and3 (Nat.beq off 0) (Nat.beq n v.size) (beqB g v.agg)) (some v)
    (ob v.two fun p => cond (Nat.blt off p.1.size) (AV.sub off n g f p.1) (AV.sub (Nat.sub off p.1.size) n g f p.2))

/-- The value with the part of n cells at cell off replaced. -/
def AV.upd (off n : Nat) (g : Bool) (u : AV) : Nat → AV → Option AV
  | 0, _ => none
  | f + 1, v => cond (and3 (Nat.beq off 0) (Nat.beq n v.size) (beqB g v.agg)) (some u)
    (ob v.two fun p => cond (Nat.blt off p.1.size) (ob (AV.upd off n g u f p.1) fun a => some (AV.mk a p.2))
      (ob (AV.upd (Nat.sub off p.1.size) n g u f p.2) fun b => some (AV.mk p.1 b)))

/-- The same inside data: what lies at a cell, and how it is changed. -/
structure Lens (t u : Ty) where
  get : t.den → u.den
  put : t.den → u.den → t.den

def Ty.at (off : Nat) (u : Ty) : (t : Ty) → Option (Lens t u)
  | .pr a b => match cond (Nat.beq off 0) (Ty.same (.pr a b) u) none with
    | some h => some ⟨fun x => Ty.as h.out x, fun _ y => Ty.as h.out.symm y⟩
    | none => cond (Nat.blt off a.size)
        (ob (Ty.at off u a) fun l => some ⟨fun x => l.get x.1, fun x y => (l.put x.1 y, x.2)⟩)
        (ob (Ty.at (Nat.sub off a.size) u b) fun l => some ⟨fun x => l.get x.2, fun x y => (x.1, l.put x.2 y)⟩)
  | t => match cond (Nat.beq off 0) (Ty.same t u) none with
    | some h => some ⟨fun x => Ty.as h.out x, fun _ y => Ty.as h.out.symm y⟩
    | none => none

def bt (s : ByteArray) (i : Int) : Int := if h : i.toNat < s.size then ((s[i.toNat]'h).toNat : Int) else 0

inductive Sh where
  | dat (t : Ty)
  | own (e : Ty)
  | box (s : Sh)
  | map (kt vt : Ty)
  | fn (f : Nat) (cap : Sh)
  | nilfn
  | imm (t : Ty)
  | pr (a b : Sh)
  | cons (a b : Sh)
  | un
  | nix

@[reducible] def Sh.ty : Sh → Ty
  | .dat t => t
  | .own e => .sl e
  | .box s => s.ty
  | .map k v => .sl (.pr k v)
  | .fn _ c => c.ty
  | .nilfn => .un
  | .imm t => t
  | .pr a b => .pr a.ty b.ty
  | .cons a b => .pr a.ty b.ty
  | .un => .un
  | .nix => .un

def Sh.agg : Sh → Bool
  | .dat t => t.agg
  | .pr _ _ | .un => true
  | _ => false

/-- Lists of values. -/
def Sh.list : Sh → Bool
  | .cons _ b => b.list
  | .un => true
  | _ => false

/-- Does nothing of it lead to memory that is not its own? -/
def Sh.flat : Sh → Bool
  | .dat t => t.flat
  | .own e => e.flat
  | .box s => s.flat
  | .map k v => k.flat && v.flat
  | .fn _ c => c.flat
  | .pr a b | .cons a b => a.flat && b.flat
  | .un | .nilfn | .nix => true
  | .imm _ => false

/-- A value of this shape with these data: what it owns is new in the state. -/
def Sh.mk : (s : Sh) → s.ty.den → St → AV × St
  | .dat t, x, st => (.dat t x, st)
  | .own e, xs, st => (.own st.nb, ⟨st.fr, (st.nb, .row e xs) :: st.bl, Nat.add st.nb 1⟩)
  | .box s, x, st => (.ptr (Sh.mk s x st).2.nb 0, ⟨(Sh.mk s x st).2.fr, ((Sh.mk s x st).2.nb, .box (Sh.mk s x st).1) :: (Sh.mk s x st).2.bl, Nat.add (Sh.mk s x st).2.nb 1⟩)
  | .map k v, es, st => (.mp st.nb, ⟨st.fr, (st.nb, .map k v es) :: st.bl, Nat.add st.nb 1⟩)
  | .fn f c, x, st => (.fn f (Sh.mk c x st).1, (Sh.mk c x st).2)
  | .nilfn, _, st => (.nilfn, st)
  | .imm t, x, st => (.iptr t x, st)
  | .pr a b, x, st => (AV.mk (Sh.mk a x.1 st).1 (Sh.mk b x.2 (Sh.mk a x.1 st).2).1, (Sh.mk b x.2 (Sh.mk a x.1 st).2).2)
  | .cons a b, x, st => (.cons (Sh.mk a x.1 st).1 (Sh.mk b x.2 (Sh.mk a x.1 st).2).1, (Sh.mk b x.2 (Sh.mk a x.1 st).2).2)
  | .un, _, st => (.un, st)
  | .nix, _, st => (.junk, st)

/-- What a value of this shape holds: its data; the blocks that it owns (rows, variables, maps) and the rows that go into data. -/
structure Got (t : Ty) where
  x : t.den
  refs : List Nat
  gone : List Nat

def Sh.get (bl : List (Nat × Blk)) : (s : Sh) → AV → Option (Got s.ty)
  | .dat t, v => ob (AV.take bl t v) fun p => some ⟨p.1, [], p.2⟩
  | .own e, .own k => match lk bl k with
    | some (.row e' xs) => match Ty.same (.sl e') (.sl e) with
      | some h => some ⟨Ty.as h.out xs, [k], []⟩
      | none => none
    | _ => none
  | .own _, .nil => some ⟨[], [], []⟩
  | .box s, .ptr k off => cond (Nat.beq off 0) (match lk bl k with
    | some (.box v) => ob (Sh.get bl s v) fun g => some ⟨g.x, k :: g.refs, g.gone⟩
    | _ => none) none
  | .map kt vt, .mp k => match lk bl k with
    | some (.map kt' vt' es) => match Ty.same (.sl (.pr kt' vt')) (.sl (.pr kt vt)) with
      | some h => some ⟨Ty.as h.out es, [k], []⟩
      | none => none
    | _ => none
  | .fn f c, .fn g cap => cond (and3 (Nat.beq f g) c.list true) (Sh.get bl c cap) none
  | .nilfn, .nilfn => some ⟨(), [], []⟩
  | .imm t, .iptr u x => match Ty.same u t with
    | some h => some ⟨Ty.as h.out x, [], []⟩
    | none => none
  | .pr a b, v => ob v.two fun p => ob (Sh.get bl a p.1) fun g => ob (Sh.get bl b p.2) fun h => some ⟨(g.x, h.x), sapp g.refs h.refs, sapp g.gone h.gone⟩
  | .cons a b, .cons u v => ob (Sh.get bl a u) fun g => ob (Sh.get bl b v) fun h => some ⟨(g.x, h.x), sapp g.refs h.refs, sapp g.gone h.gone⟩
  | .un, .un => some ⟨(), [], []⟩
  | .un, .dat .un _ => some ⟨(), [], []⟩
  | _, _ => none

/-- A function's result. -/
def Sh.res (bl : List (Nat × Blk)) : (s : Sh) → AV → Option (Got s.ty)
  | .nix, _ => some ⟨(), [], []⟩
  | s, v => Sh.get bl s v

/-- What is behind a reference is given anew: the same blocks with new data (what lies deeper is new). -/
def Sh.put : (s : Sh) → AV → s.ty.den → St → Option St
  | .own e, .own k, xs, st => some ⟨st.fr, (k, .row e xs) :: st.bl, st.nb⟩
  | .box s, .ptr k off, x, st => cond (Nat.beq off 0) (some ⟨(Sh.mk s x st).2.fr, (k, .box (Sh.mk s x st).1) :: (Sh.mk s x st).2.bl, (Sh.mk s x st).2.nb⟩) none
  | .map kt vt, .mp k, es, st => some ⟨st.fr, (k, .map kt vt es) :: st.bl, st.nb⟩
  | .fn _ c, .fn _ cap, x, st => Sh.put c cap x st
  | .cons a b, .cons u v, x, st => ob (Sh.put a u x.1 st) fun st => Sh.put b v x.2 st
  | .un, .un, _, st => some st
  | _, _, _, _ => none

/-- No number twice. -/
def once (l : List Nat) : Bool :=
  match l with
  | [] => true
  | j :: r => cond (has r j) false (once r)

/-- The owned blocks are all different, and none goes into data. -/
def apartK (refs gone : List Nat) : Bool := and3 (once refs) (sall (fun k => cond (has gone k) false true) refs) true

abbrev Fs := List (Sh × Bool)

@[reducible] def Fs.sh : Fs → Sh
  | [] => .un
  | p :: r => .cons p.1 (Fs.sh r)

@[reducible] def Fs.ty (l : Fs) : Ty := l.sh.ty

/-- Of those that are given back. -/
@[reducible] def Fs.back : Fs → Ty
  | [] => .un
  | (s, true) :: r => .pr s.ty (Fs.back r)
  | (_, false) :: r => Fs.back r

/-- A function: its arguments' shapes (and whether what is behind them is given back anew), its result's shape, what it computes. -/
structure Ent where
  ins : Fs
  res : Sh
  α : Type
  fn : ins.ty.den → Option α
  out : ins.ty.den → α → res.ty.den × ins.back.den
  /-- Its arguments are taken: nothing is said of them behind the call. -/
  take : Bool

/-- A function that returns nil or a slice that is not empty; its arguments are taken. -/
structure Opt where
  ins : Fs
  e : Ty
  fn : ins.ty.den → Option (Option (List e.den))

/-- How a loop is left: by one of these exits with what it has changed, or by a return. -/
@[reducible] def Out (M R : Type) : List Nat → Bool → Type
  | [], false => Empty
  | [], true => R
  | [_], false => M
  | _ :: r, b => Sum M (Out M R r b)

/-- A loop: the slots that it reads (their shapes; whether they are given back anew), the other slots that it writes, its exits, whether it returns, the result's shape, what it computes; slots that hold functions that have taken hold of other slots' variables. -/
structure Lent where
  slots : List Nat
  ins : Fs
  writes : List Nat
  exits : List Nat
  rets : Bool
  res : Sh
  fn : ins.ty.den → Option (Out ins.back.den res.ty.den exits rets)
  ali : List (Nat × Nat × List Nat)
  /-- Of a scope: the label that is jumped to. -/
  jmp : Option Nat

def Out.exit {M R : Type} : (l : List Nat) → (b : Bool) → Nat → M → Option (Out M R l b)
  | [], _, _, _ => none
  | [i], false, j, m => cond (Nat.beq i j) (some m) none
  | [i], true, j, m => cond (Nat.beq i j) (some (.inl m)) none
  | i :: i' :: r, b, j, m => cond (Nat.beq i j) (some (.inl m)) (ob (Out.exit (i' :: r) b j m) fun o => some (.inr o))

def Out.ret {M R : Type} : (l : List Nat) → (b : Bool) → R → Option (Out M R l b)
  | [], false, _ => none
  | [], true, x => some x
  | [_], false, _ => none
  | [_], true, x => some (.inr x)
  | _ :: i' :: r, b, x => ob (Out.ret (i' :: r) b x) fun o => some (.inr o)

def Out.elim {M R α : Type} : (l : List Nat) → (b : Bool) → Out M R l b → (Nat → M → α) → (R → α) → α
  | [], false, o, _, _ => nomatch o
  | [], true, o, _, g => g o
  | [i], false, o, f, _ => f i o
  | [i], true, o, f, g => match o with
    | .inl m => f i m
    | .inr x => g x
  | i :: i' :: r, b, o, f, g => match o with
    | .inl m => f i m
    | .inr o => Out.elim (i' :: r) b o f g

/-- The data of a list of values by their shapes. -/
def Fs.get (bl : List (Nat × Blk)) (l : Fs) (v : AV) : Option (Got l.ty) := Sh.get bl l.sh v

/-- May these shapes stand there? What is not given back is data, a row or a map, or leads to nothing. -/
def Sh.still : Sh → Bool
  | .dat _ | .un | .nilfn | .imm _ => true
  | .fn _ c => c.still
  | .pr a b | .cons a b => a.still && b.still
  | _ => false
def Sh.stay : Sh → Bool
  | .own _ | .map _ _ | .box (.dat _) => true
  | s => s.still
def Fs.sane : Fs → Bool
  | [] => true
  | (_, true) :: r => Fs.sane r
  | (s, false) :: r => cond s.stay (Fs.sane r) false

/-- A variable that is not given back holds data. -/
def Fs.boxed (bl : List (Nat × Blk)) : Fs → AV → Bool
  | [], _ => true
  | (.box (.dat _), false) :: r, .cons u v => match u with
    | .ptr k _ => match lk bl k with
      | some (.box (.dat _ _)) => Fs.boxed bl r v
      | _ => false
    | _ => false
  | _ :: r, .cons _ v => Fs.boxed bl r v
  | _ :: _, _ => false

/-- Of what is given back: the owned blocks. -/
def Fs.lent (bl : List (Nat × Blk)) : Fs → AV → List Nat
  | (s, true) :: r, .cons u v => sapp (match Sh.get bl s u with | some g => g.refs | none => []) (Fs.lent bl r v)
  | (_, false) :: r, .cons _ v => Fs.lent bl r v
  | _, _ => []

/-- Behind a call: what is given back is laid behind the references. -/
def Fs.put : (l : Fs) → AV → l.back.den → St → Option St
  | [], _, _, st => some st
  | (s, true) :: r, .cons u v, m, st => ob (Sh.put s u m.1 st) fun st => Fs.put r v m.2 st
  | (_, false) :: r, .cons _ v, m, st => Fs.put r v m st
  | _ :: _, _, _, _ => none

/-- A state that holds these data in these slots. -/
def toSlots : List Nat → AV → List (Nat × AV) → List (Nat × AV)
  | t :: ts, .cons u v, fr => (t, u) :: toSlots ts v fr
  | _, _, fr => fr
def Fs.mk (l : Fs) (ts : List Nat) (x : l.ty.den) (st : St) : St := (fun q : AV × St => ⟨toSlots ts q.1 q.2.fr, q.2.bl, q.2.nb⟩) (Sh.mk l.sh x st)

def known : Option AV → Option AV
  | some .junk => none
  | r => r
/-- One value, not several. -/
def one : Option AV → Option AV
  | some .junk => none
  | some (.cons _ _) => none
  | r => r
/-- What the slots hold, in line. -/
def slotsOf (fr : List (Nat × AV)) : List Nat → Option AV
  | [] => some .un
  | t :: r => ob (one (lk fr t)) fun v => ob (slotsOf fr r) fun w => some (.cons v w)

/-- Behind a loop: a variable behind a pointer keeps its place, whatever else is given back is new in its slot. -/
def Fs.after : (l : Fs) → AV → List Nat → l.back.den → St → Option St
  | [], _, _, _, st => some st
  | (.box s, true) :: r, .cons u v, _ :: ts, m, st => ob (Sh.put (.box s) u m.1 st) fun st => Fs.after r v ts m.2 st
  | (.map k e, true) :: r, .cons u v, _ :: ts, m, st => ob (Sh.put (.map k e) u m.1 st) fun st => Fs.after r v ts m.2 st
  | (.fn f c, true) :: r, .cons u v, _ :: ts, m, st => ob (Sh.put (.fn f c) u m.1 st) fun st => Fs.after r v ts m.2 st
  | (.dat e, true) :: r, .cons _ v, t :: ts, m, st => Fs.after r v ts m.2 ⟨(t, .dat e m.1) :: st.fr, st.bl, st.nb⟩
  | (.own e, true) :: r, .cons _ v, t :: ts, m, st => Fs.after r v ts m.2 ⟨(t, .own st.nb) :: st.fr, (st.nb, .row e m.1) :: st.bl, Nat.add st.nb 1⟩
  | (_, false) :: r, .cons _ v, _ :: ts, m, st => Fs.after r v ts m st
  | _, _, _, _, _ => none

inductive Ex where
  | normal
  | exit (id : Nat)
  | goto (l : Nat)

/-- What the run looks up: types, functions by number (their readings; whether they are run in place), loops by function and number, loops over functions by function and number, functions that take hold of variables that are not written any more. -/
structure Lib where
  ti : Nat → TI
  ent : Nat → List Ent
  body : Nat → Option Func
  loop : Nat → Nat → List Lent
  rng : Nat → Nat → Option (St → Option (Bool × St))
  frz : Nat → Bool
  opt : Nat → Option Opt
  alt : Nat → List Ent

def constAV : Value → Option AV
  | .bool b => some (.dat .bool b)
  | .int k n => some (.dat (.int k) n)
  | .string s => some (.dat .str s)
  | .slice none 0 0 => some .nil
  | .nilFunc => some .nilfn
  | .nilIface => some (.dat .err 0)
  | .pointer none => some (.dat .np ())
  | _ => none

def St.opd (st : St) : Operand → Option AV
  | .tmp t => one (lk st.fr t)
  | .const v => constAV v
  | .func f => some (.fn f .un)
  | .global _ => none

/-- One value or several. -/
def St.any (st : St) : Operand → Option AV
  | .tmp t => known (lk st.fr t)
  | .const (.map none) => some .junk
  | x => st.opd x

/-- Several values, not nothing at all. -/
def several : Option AV → Option AV
  | some .junk => none
  | some (.cons .junk _) => none
  | r => r

/-- Several values. -/
def St.tup (st : St) : Operand → Option AV
  | .tmp t => several (lk st.fr t)
  | _ => none

def St.set (st : St) (t : Nat) (v : AV) : St := ⟨(t, v) :: st.fr, st.bl, st.nb⟩
def St.put (st : St) (dst : Option Tmp) (v : AV) : St := match dst with | some d => st.set d v | none => st
def St.blk (st : St) (k : Nat) (b : Blk) : St := ⟨st.fr, (k, b) :: st.bl, st.nb⟩
def St.new (st : St) (b : Blk) : St := ⟨st.fr, (st.nb, b) :: st.bl, Nat.add st.nb 1⟩

def AV.int (k : IntKind) (n : Int) : AV := .dat (.int k) n
def AV.bool (b : Bool) : AV := .dat .bool b

/-- The label of a scope, and the code from it on. -/
def labOf : Code → Option Nat
  | .seq a b => match labOf a with
    | some l => some l
    | none => labOf b
  | .label l => some l
  | _ => none
def fromLab (l : Nat) (c : Code) : Code := match findLabel c l with | some r => r | none => .skip
/-- The number of a scope's loop. -/
def jid (l : Nat) : Nat := Nat.add 1000000 l

/-- The loops of a code, each with the block that it stands in. -/
def loopsIn : Code → Nat → List (Nat × Code)
  | .seq a b, n => sapp (loopsIn a n) (loopsIn b n)
  | .cond _ a b, n => sapp (loopsIn a n) (loopsIn b n)
  | .block i c, _ => loopsIn c i
  | .loop c, n => (n, c) :: loopsIn c n
  | .scope c, n => match labOf c with
    | some l => (jid l, fromLab l c) :: loopsIn c n
    | none => loopsIn c n
  | _, _ => []

/-- The loops over functions of a code, each with the block that it stands in. -/
def rngsIn : Code → Nat → List (Nat × Code)
  | .seq a b, n => sapp (rngsIn a n) (rngsIn b n)
  | .cond _ a b, n => sapp (rngsIn a n) (rngsIn b n)
  | .block i c, _ => rngsIn c i
  | .loop c, n => rngsIn c n
  | .scope c, n => rngsIn c n
  | .rangeFunc g ps a b, n => [(n, .rangeFunc g ps a b)]
  | _, _ => []

/-- No result lies in memory. -/
def tmpsOnly : List ResultVar → Bool
  | [] => true
  | .tmp _ :: r => tmpsOnly r
  | .cell _ _ :: _ => false

/-- The slots that a code writes. -/
def opsDsts (l : List Oper) : List Nat := skeep (fun o => o.dst) l
def dstsOf : Code → List Nat
  | .region _ ops _ => opsDsts ops.toList
  | .seq a b => sapp (dstsOf a) (dstsOf b)
  | .cond _ a b => sapp (dstsOf a) (dstsOf b)
  | .block _ c => dstsOf c
  | .loop c => dstsOf c
  | .scope c => dstsOf c
  | .rangeFunc _ ps a b => sapp ps.toList (sapp (dstsOf a) (dstsOf b))
  | _ => []
def dstIn (D : Nat → Bool) (c : Code) : Bool := sall D (dstsOf c)

def opdsOf (st : St) : List Operand → Option AV
  | [] => some .un
  | x :: r => ob (st.opd x) fun v => ob (opdsOf st r) fun w => some (.cons v w)

section
variable {R : Type} (L : Lib)

def binI (op : BinOp) (k : IntKind) (x y : Int) (K : AV → Option R) : Option R :=
  match op with
  | .add => K (.dat (.int k) (k.wrap (x + y)))
  | .sub => K (.dat (.int k) (k.wrap (x - y)))
  | .mul => K (.dat (.int k) (k.wrap (x * y)))
  | .quo => if y = 0 then none else K (.dat (.int k) (k.wrap (x.tdiv y)))
  | .rem => if y = 0 then none else K (.dat (.int k) (x.tmod y))
  | .and => K (.dat (.int k) (k.wrap (BitVec.ofInt k.bits x &&& BitVec.ofInt k.bits y).toNat))
  | .or => K (.dat (.int k) (k.wrap (BitVec.ofInt k.bits x ||| BitVec.ofInt k.bits y).toNat))
  | .eql => K (.dat .bool (x == y))
  | .neq => K (.dat .bool (x != y))
  | .lss => K (.dat .bool (decide (x < y)))
  | .leq => K (.dat .bool (decide (x ≤ y)))
  | .gtr => K (.dat .bool (decide (x > y)))
  | .geq => K (.dat .bool (decide (x ≥ y)))
  | _ => none

def shiftI (op : BinOp) (k : IntKind) (x y : Int) (K : AV → Option R) : Option R :=
  if y < 0 then none else
  match op with
  | .shl => K (.dat (.int k) (k.wrap (x * 2 ^ (min y.toNat k.bits))))
  | .shr => K (.dat (.int k) (x.fdiv (2 ^ (min y.toNat k.bits))))
  | _ => none

/-- A type without parts. -/
def plainTy (t : Nat) : Option Ty :=
  match (L.ti t).k with
  | .plain => some (L.ti t).ty
  | _ => none

/-- A type of slices. -/
def isSlice (t : Nat) : Bool :=
  match (L.ti t).k with
  | .slice _ => true
  | _ => false

/-- May a map have such keys? -/
def Ty.key : Ty → Bool
  | .int _ | .bool | .str => true
  | _ => false

/-- Are these the keys' type and data? -/
def keyIs (t : Nat) (kt : Ty) : Bool :=
  match (L.ti t).k with
  | .plain => match Ty.same kt (L.ti t).ty with
    | some _ => kt.key
    | none => false
  | .array n e => match plainTy L e with
    | some (.int k) => match Ty.same kt (.arr n (.int k)) with
      | some _ => true
      | none => false
    | _ => false
  | _ => false

/-- May such data, a struct of numbers, be compared? -/
def eqIs (t : Nat) (s : Ty) : Bool :=
  match (L.ti t).k with
  | .struct _ => (L.ti t).pure && (L.ti t).ty.nums && (match Ty.same s (L.ti t).ty with | some _ => true | none => false)
  | _ => false

def binAV (op : BinOp) (t : Nat) (a b : AV) (K : AV → Option R) : Option R :=
  match a, b with
  | .dat (.int j) x, .dat (.int k) y =>
    match op with
    | .shl | .shr => shiftI op j x y K
    | _ => match Ty.same (.int j) (.int k) with
      | some _ => binI op j x y K
      | none => none
  | .dat .bool x, .dat .bool y =>
    match op, plainTy L t with
    | .eql, some .bool => K (.dat .bool (x == y))
    | .neq, some .bool => K (.dat .bool (!(x == y)))
    | _, _ => none
  | .dat (.arr n s) x, .dat (.arr m u) y => match Ty.same (.arr n s) (.arr m u) with
    | some h => cond (keyIs L t (.arr n s)) (match op with
      | .eql => K (.dat .bool ((Ty.arr m u).beq (Ty.as h.out x) y))
      | .neq => K (.dat .bool (!((Ty.arr m u).beq (Ty.as h.out x) y)))
      | _ => none) none
    | none => none
  | .dat (.pr s1 s2) x, .dat (.pr u1 u2) y => match Ty.same (.pr s1 s2) (.pr u1 u2) with
    | some h => cond (eqIs L t (.pr s1 s2)) (match op with
      | .eql => K (.dat .bool ((Ty.pr u1 u2).beq (Ty.as h.out x) y))
      | .neq => K (.dat .bool (!((Ty.pr u1 u2).beq (Ty.as h.out x) y)))
      | _ => none) none
    | none => none
  | .dat .str x, .dat .str y =>
    match op with
    | .add => if x.size + y.size ≤ 140737488355328 then K (.dat .str (x ++ y)) else none
    | .eql => K (.dat .bool (x.toList == y.toList))
    | .neq => K (.dat .bool !(x.toList == y.toList))
    | _ => none
  | .dat (.sl _) xs, .nil => cond (isSlice L t) (match op with
    | .eql => if 0 < xs.length then K (.dat .bool false) else none
    | .neq => if 0 < xs.length then K (.dat .bool true) else none
    | _ => none) none
  | .nil, .nil => cond (isSlice L t) (match op with
    | .eql => K (.dat .bool true)
    | .neq => K (.dat .bool false)
    | _ => none) none
  | _, _ => none

/-- The address of element i. -/
def indexAddrAV (st : St) (t : Nat) (x : AV) (i : Int) (K : AV → Option R) : Option R :=
  match (L.ti t).k with
  | .slice et => match x with
    | .own k => match lk st.bl k with
      | some (.row e xs) => cond (Nat.beq e.size (L.ti et).size) (if 0 ≤ i ∧ i < (xs.length : Int) then K (.rptr k e e (fun l => l.getD i.toNat e.dflt) (fun l y => l.set i.toNat y)) else none) none
      | some (.vals n sz _) => cond (Nat.beq sz (L.ti et).size) (if 0 ≤ i ∧ i < (n : Int) then K (.vptr k sz i.toNat 0) else none) none
      | _ => none
    | .dat (.sl e) xs => cond (Nat.beq e.size (L.ti et).size) (if 0 ≤ i ∧ i < (xs.length : Int) then K (.iptr e (xs.getD i.toNat e.dflt)) else none) none
    | _ => none
  | .array n et => match x with
    | .ptr k off => cond (L.ti et).pure (if 0 ≤ i ∧ i < (n : Int) then K (.aptr k off n (L.ti et).ty (L.ti et).ty (fun l => l.getD i.toNat (L.ti et).ty.dflt) (fun l y => l.set i.toNat y)) else none) none
    | .rptr k e0 (.arr m e) get put => cond (and3 (Nat.beq e.size (L.ti et).size) (Nat.beq m n) true) (if 0 ≤ i ∧ i < (n : Int) then K (.rptr k e0 e (fun l => (get l).getD i.toNat e.dflt) (fun l y => put l ((get l).set i.toNat y))) else none) none
    | .aptr k off l e0 (.arr m e) get put => cond (and3 (Nat.beq e.size (L.ti et).size) (Nat.beq m n) true) (if 0 ≤ i ∧ i < (n : Int) then K (.aptr k off l e0 e (fun l => (get l).getD i.toNat e.dflt) (fun l y => put l ((get l).set i.toNat y))) else none) none
    | .iptr (.arr m e) xs => cond (and3 (Nat.beq e.size (L.ti et).size) (Nat.beq m n) true) (if 0 ≤ i ∧ i < (n : Int) then K (.iptr e (xs.getD i.toNat e.dflt)) else none) none
    | _ => none
  | _ => none

/-- The address of a field. -/
def fieldAddrAV (t : Nat) (x : AV) (f : Nat) : Option AV :=
  match (L.ti t).k with
  | .struct fs => ob (snth fs f) fun p => match x with
    | .ptr k off => some (.ptr k (Nat.add off p.1))
    | .vptr k sz i off => some (.vptr k sz i (Nat.add off p.1))
    | .rptr k e s get put => ob (Ty.at p.1 (L.ti p.2).ty s) fun l => some (.rptr k e _ (fun xs => l.get (get xs)) (fun xs y => put xs (l.put (get xs) y)))
    | .aptr k off n e s get put => ob (Ty.at p.1 (L.ti p.2).ty s) fun l => some (.aptr k off n e _ (fun xs => l.get (get xs)) (fun xs y => put xs (l.put (get xs) y)))
    | .iptr s y => ob (Ty.at p.1 (L.ti p.2).ty s) fun l => some (.iptr _ (l.get y))
    | _ => none
  | _ => none

def loadAV (st : St) (t : Nat) (x : AV) : Option AV :=
  cond (Nat.beq (L.ti t).size 0) none <| match x with
  | .ptr k off => match lk st.bl k with
    | some (.box v) => AV.sub off (L.ti t).size (L.ti t).agg fuel0 v
    | _ => none
  | .vptr k sz i off => match lk st.bl k with
    | some (.vals _ sz' vs) => cond (Nat.beq sz sz') (ob (vs.nth i) fun v => AV.sub off (L.ti t).size (L.ti t).agg fuel0 v) none
    | _ => none
  | .rptr k e s get _ => cond (L.ti t).pure (match lk st.bl k with
    | some (.row e' xs) => match Ty.same (.sl e') (.sl e), Ty.same s (L.ti t).ty with
      | some h, some _ => some (.dat s (get (Ty.as h.out xs)))
      | _, _ => none
    | _ => none) none
  | .aptr k off n e s get _ => cond (L.ti t).pure (match lk st.bl k with
    | some (.box v) => ob (AV.sub off (Nat.mul n e.size) true fuel0 v) fun a => match a with
      | .dat u xs => match Ty.same u (.arr n e), Ty.same s (L.ti t).ty with
        | some h, some _ => some (.dat s (get (Ty.as h.out xs)))
        | _, _ => none
      | _ => none
    | _ => none) none
  | .iptr s y => cond (L.ti t).pure (match Ty.same s (L.ti t).ty with
    | some _ => some (.dat s y)
    | none => none) none
  | _ => none

/-- A store: the new state. -/
def storeAV (st : St) (t : Nat) (x v : AV) : Option St :=
  cond (Nat.beq (L.ti t).size 0) none <| match x with
  | .ptr k off => match lk st.bl k with
    | some (.box w) => cond (Nat.beq v.size (L.ti t).size && beqB v.agg (L.ti t).agg) (ob (AV.upd off (L.ti t).size (L.ti t).agg v fuel0 w) fun u => some (st.blk k (.box u))) none
    | _ => none
  | .rptr k e s get put => cond (L.ti t).pure (match lk st.bl k with
    | some (.row e' xs) => match Ty.same (.sl e') (.sl e), Ty.same s (L.ti t).ty with
      | some h, some _ => ob (AV.take st.bl s v) fun y => cond (has y.2 k) none (some ⟨st.fr, (k, .row e (put (Ty.as h.out xs) y.1)) :: kill y.2 st.bl, st.nb⟩)
      | _, _ => none
    | _ => none) none
  | .aptr k off n e s get put => cond (L.ti t).pure (match lk st.bl k with
    | some (.box w) => ob (AV.sub off (Nat.mul n e.size) true fuel0 w) fun a => match a with
      | .dat u xs => match Ty.same u (.arr n e), Ty.same s (L.ti t).ty with
        | some h, some _ => ob (AV.take st.bl s v) fun y => ob (AV.upd off (Nat.mul n e.size) true (.dat (.arr n e) (put (Ty.as h.out xs) y.1)) fuel0 w) fun u => cond (has y.2 k) none (some ⟨st.fr, (k, .box u) :: kill y.2 st.bl, st.nb⟩)
        | _, _ => none
      | _ => none
    | _ => none) none
  | _ => none

/-- A composite value: the parts over zero. -/
def buildAV (st : St) (fs : List (Nat × Nat)) (z : AV) : List (Nat × Operand) → Option AV
  | [] => some z
  | p :: r => ob (snth fs p.1) fun f => ob (st.opd p.2) fun v => cond (Nat.beq v.size (L.ti f.2).size && beqB v.agg (L.ti f.2).agg) (ob (AV.upd f.1 (L.ti f.2).size (L.ti f.2).agg v fuel0 z) fun z => buildAV st fs z r) none

/-- A literal array's data. -/
def buildArr (st : St) (e : Ty) (n : Nat) (xs : List e.den) : List (Nat × Operand) → Option (List e.den)
  | [] => some xs
  | p :: r => ob (st.opd p.2) fun v => cond (Nat.blt p.1 n) (ob (AV.take st.bl e v) fun y => cond (sempty y.2) (buildArr st e n (xs.set p.1 y.1) r) none) none

/-- A literal slice's data, with the rows that go into it. -/
def buildSl (st : St) (e : Ty) (n : Nat) (xs : List e.den) (gone : List Nat) : List (Nat × Operand) → Option (List e.den × List Nat)
  | [] => some (xs, gone)
  | p :: r => ob (st.opd p.2) fun v => cond (Nat.blt p.1 n) (ob (AV.take st.bl e v) fun y => buildSl st e n (xs.set p.1 y.1) (sapp y.2 gone) r) none

/-- A literal slice of other values, in their order, none left out. -/
def buildVals (st : St) (sz : Nat) (g : Bool) (i : Nat) : List (Nat × Operand) → Option AV
  | [] => some .un
  | p :: r => cond (Nat.beq p.1 i) (ob (st.opd p.2) fun v => cond (and3 (Nat.beq v.size sz) (beqB v.agg g) true) (ob (buildVals st sz g (Nat.add i 1) r) fun w => some (.cons v w)) none) none

def lenAV (st : St) (t : Nat) (x : AV) : Option Int :=
  match (L.ti t).k with
  | .slice _ => match x with
    | .own k => match lk st.bl k with
      | some (.row _ xs) => some xs.length
      | some (.vals n _ _) => some n
      | _ => none
    | .nil => some 0
    | .dat (.sl _) xs => some xs.length
    | _ => none
  | .plain => match (L.ti t).ty, x with
    | .str, .dat .str s => some s.size
    | _, _ => none
  | .map _ _ => match x with
    | .mp k => match lk st.bl k with
      | some (.map _ _ es) => some es.length
      | _ => none
    | _ => none
  | _ => none

/-- A slice's data, read: nothing goes over. -/
def rowOf (st : St) (e : Ty) : AV → Option (List e.den)
  | .own k => match lk st.bl k with
    | some (.row e' xs) => match Ty.same (.sl e') (.sl e) with
      | some h => some (Ty.as h.out xs)
      | none => none
    | _ => none
  | .nil => some []
  | .dat (.sl e') xs => match Ty.same (.sl e') (.sl e) with
    | some h => some (Ty.as h.out xs)
    | none => none
  | _ => none

def appendAV (st : St) (e : Ty) (bytes : Nat) (s x : AV) (K : St → AV → Option R) : Option R :=
  match s with
  | .own k => match x with
    | .own j => cond (Nat.beq k j) none (ob (rowOf st e s) fun xs => ob (rowOf st e x) fun ys =>
        if (xs.length + ys.length) * bytes ≤ 140737488355328 then K ⟨st.fr, (st.nb, .row e (xs ++ ys)) :: (k, .dead) :: st.bl, Nat.add st.nb 1⟩ (.own st.nb) else none)
    | _ => ob (rowOf st e s) fun xs => ob (rowOf st e x) fun ys =>
        if (xs.length + ys.length) * bytes ≤ 140737488355328 then K ⟨st.fr, (st.nb, .row e (xs ++ ys)) :: (k, .dead) :: st.bl, Nat.add st.nb 1⟩ (.own st.nb) else none
  | .nil => ob (rowOf st e x) fun ys => if ys.length * bytes ≤ 140737488355328 then K ⟨st.fr, (st.nb, .row e ys) :: st.bl, Nat.add st.nb 1⟩ (.own st.nb) else none
  | _ => none

/-- A bound of a slice expression. -/
def boundOf (st : St) (o : Option Operand) (d : Int) (K : Int → Option R) : Option R :=
  match o with
  | none => K d
  | some x => ob (st.opd x) fun v => match v with
    | .dat (.int _) i => K i
    | _ => none

/-- Is e what a slice type's elements are? -/
def elemIs (t : Nat) (e : Ty) : Bool :=
  match (L.ti t).k with
  | .slice et => Nat.beq e.size (L.ti et).size
  | _ => false

def cut {α : Type} (lo hi : Option Operand) (l h : Int) (xs : List α) : List α :=
  match lo, hi with
  | none, none => xs
  | some _, none => xs.drop l.toNat
  | none, some _ => xs.take h.toNat
  | some _, some _ => (xs.take h.toNat).drop l.toNat

def sliceAV (st : St) (t : Nat) (x : AV) (lo hi : Option Operand) (K : St → AV → Option R) : Option R :=
  match x with
  | .dat (.sl e) xs => cond (elemIs L t e) (boundOf st hi xs.length fun h => boundOf st lo 0 fun l =>
    if 0 ≤ l ∧ l ≤ h ∧ h ≤ (xs.length : Int) then K st (.dat (.sl e) (cut lo hi l h xs)) else none) none
  | .own k => match lk st.bl k with
    | some (.row e xs) => cond (elemIs L t e) (boundOf st hi xs.length fun h => boundOf st lo 0 fun l =>
      if 0 ≤ l ∧ l ≤ h ∧ h ≤ (xs.length : Int) then
        K ⟨st.fr, (st.nb, .row e (cut lo hi l h xs)) :: (k, .dead) :: st.bl, Nat.add st.nb 1⟩ (.own st.nb) else none) none
    | _ => none
  | .dat .str s => match plainTy L t with
    | some .str => boundOf st hi s.size fun h => boundOf st lo 0 fun l =>
    if 0 ≤ l ∧ l ≤ h ∧ h ≤ (s.size : Int) then K st (.dat .str (s.extract l.toNat h.toNat)) else none
    | _ => none
  | _ => none

/-- A slice expression with a third bound, from the first element on. -/
def slice3AV (st : St) (t : Nat) (x : AV) (hi mx : Operand) (K : St → AV → Option R) : Option R :=
  boundOf st (some hi) 0 fun h => boundOf st (some mx) 0 fun m => match x with
  | .dat (.sl e) xs => cond (elemIs L t e) (if 0 ≤ h ∧ h ≤ m ∧ m ≤ (xs.length : Int) then K st (.dat (.sl e) (xs.take h.toNat)) else none) none
  | .own k => match lk st.bl k with
    | some (.row e xs) => cond (elemIs L t e) (if 0 ≤ h ∧ h ≤ m ∧ m ≤ (xs.length : Int) then K ⟨st.fr, (st.nb, .row e (xs.take h.toNat)) :: (k, .dead) :: st.bl, Nat.add st.nb 1⟩ (.own st.nb) else none) none
    | _ => none
  | _ => none

/-- Is this operand nil: of an interface's type (true), of a pointer's (false)? -/
def nilOf : Operand → Option Bool
  | .const .nilIface => some true
  | .const (.pointer none) => some false
  | _ => none
def nilop (op : BinOp) (b : Bool) (K : AV → Option R) : Option R :=
  match op with
  | .eql => K (.dat .bool b)
  | .neq => K (.dat .bool !b)
  | _ => none
/-- Something is held against nil. -/
def nilcmp (op : BinOp) (t : Nat) (b : Bool) (a : AV) (K : AV → Option R) : Option R :=
  match b, (L.ti t).k with
  | true, .iface => match a with
    | .dat .err n => nilop op (decide ((n : Int) = 0)) K
    | _ => none
  | false, .ptr _ => match a with
    | .ptr _ _ => nilop op false K
    | .dat .np _ => nilop op true K
    | _ => none
  | _, _ => none
/-- An error is made: its number. -/
def errOf : AV → Option Int
  | .dat (.pr (.int .i64) .un) y => some y.1
  | .pr (.dat (.int .i64) n) .un => some n
  | _ => none

/-- A map's entries behind a store. -/
def mset (kt vt : Ty) (es : List (kt.den × vt.den)) (k : kt.den) (v : vt.den) : List (kt.den × vt.den) :=
  match es with
  | [] => [(k, v)]
  | p :: r => cond (kt.beq k p.1) ((p.1, v) :: r) (p :: mset kt vt r k v)
def mget (kt vt : Ty) (es : List (kt.den × vt.den)) (k : kt.den) : Option vt.den :=
  match es with
  | [] => none
  | p :: r => cond (kt.beq k p.1) (some p.2) (mget kt vt r k)

/-- Is what may come back flat? -/
def Fs.allFlat : Fs → Bool
  | [] => true
  | (.dat _, _) :: r => Fs.allFlat r
  | (s, _) :: r => s.flat && Fs.allFlat r

/-- A known function is called: the first of its readings whose shapes fit. -/
def callEnt (st : St) (args : AV) (dst : Option Tmp) (K : St → Option R) : List Ent → Option R
  | [] => none
  | e :: r => match Fs.get st.bl e.ins args with
    | some g => cond e.take
        (cond (apartK g.refs g.gone) (ob (e.fn g.x) fun y =>
          K ((Sh.mk e.res (e.out g.x y).1 ⟨st.fr, kill (sapp g.refs g.gone) st.bl, st.nb⟩).2.put dst (Sh.mk e.res (e.out g.x y).1 ⟨st.fr, kill (sapp g.refs g.gone) st.bl, st.nb⟩).1)) none)
        (cond (and3 (apartK g.refs g.gone) e.ins.sane (Fs.boxed st.bl e.ins args)) (ob (e.fn g.x) fun y =>
          ob (Fs.put e.ins args (e.out g.x y).2 ⟨st.fr, kill (sapp (Fs.lent st.bl e.ins args) (cond (and3 e.res.flat e.ins.allFlat true) [] g.gone)) st.bl, st.nb⟩) fun st1 =>
          K ((Sh.mk e.res (e.out g.x y).1 st1).2.put dst (Sh.mk e.res (e.out g.x y).1 st1).1)) none)
    | none => callEnt st args dst K r

/-- Nothing, or something. -/
def oel {α R : Type} (o : Option α) (a : Option R) (f : α → Option R) : Option R :=
  match o with
  | none => a
  | some x => f x

/-- A function is called that returns nil or a slice that is not empty. -/
def callOpt (st : St) (args : AV) (dst : Option Tmp) (K : St → Option R) (e : Opt) : Option R :=
  ob (Fs.get st.bl e.ins args) fun g => cond (apartK g.refs g.gone) (ob (e.fn g.x) fun y =>
    oel y (K (St.put ⟨st.fr, kill (sapp g.refs g.gone) st.bl, st.nb⟩ dst .nil)) fun xs => K (St.put ⟨st.fr, kill (sapp g.refs g.gone) st.bl, st.nb⟩ dst (.dat (.sl e.e) xs))) none

/-- A function is called of which several readings are known: the next one is taken where one says nothing. -/
def callAlt (st : St) (args : AV) (dst : Option Tmp) (K : St → Option R) : List Ent → Option R
  | [] => none
  | e :: r => match r with
    | [] => callEnt st args dst K [e]
    | r' :: rr => match Fs.get st.bl e.ins args with
      | some g => oel (e.fn g.x) (callAlt st args dst K (r' :: rr)) fun y => callEnt st args dst K [⟨e.ins, e.res, e.α, fun _ => some y, e.out, e.take⟩]
      | none => callAlt st args dst K (r' :: rr)

/-- A builtin function. -/
def builtinAV (st : St) (b : Builtin) (args : List Operand) (ts : List TypeId) (K : St → AV → Option R) : Option R :=
  match b, args, ts with
  | .len, [x], [t] => ob (st.opd x) fun v => ob (lenAV L st t v) fun n => K st (.dat (.int .i64) n)
  | .append, [x, y], [t, u] => cond (Nat.beq t u) (match (L.ti t).k with
    | .slice et => cond (L.ti et).pure (ob (st.opd x) fun a => ob (st.opd y) fun b => appendAV st (L.ti et).ty (L.ti et).bytes a b K) none
    | _ => none) none
  | .min, [x, y], _ => ob (st.opd x) fun a => ob (st.opd y) fun b => match a, b with
    | .dat (.int .i64) m, .dat (.int .i64) n => K st (.dat (.int .i64) (min m n))
    | _, _ => none
  | .max, [x, y], _ => ob (st.opd x) fun a => ob (st.opd y) fun b => match a, b with
    | .dat (.int .i64) m, .dat (.int .i64) n => K st (.dat (.int .i64) (max m n))
    | _, _ => none
  | _, _, _ => none

/-- The text of bytes. -/
def bytesB (xs : List Int) : ByteArray := ⟨(xs.map fun n => UInt8.ofNat n.toNat).toArray⟩

/-- An operation that calls no function of the program. -/
def opAV (st : St) (o : Oper) (K : St → Option R) : Option R :=
  match o.op with
  | .move x | .assign x => ob (st.any x) fun v => K (st.put o.dst v)
  | .pick c a b => ob (st.opd c) fun v => match v with
    | .dat .bool t => cond t (ob (st.opd a) fun u => K (st.put o.dst u)) (ob (st.opd b) fun u => K (st.put o.dst u))
    | _ => none
  | .alloc t => ob (known (some (L.ti t).zero)) fun z => K ((st.new (.box z)).put o.dst (.ptr st.nb 0))
  | .box t x => ob (st.opd x) fun v => cond (Nat.beq v.size (L.ti t).size && beqB v.agg (L.ti t).agg) (K ((st.new (.box v)).put o.dst (.ptr st.nb 0))) none
  | .build t parts => match (L.ti t).k with
    | .struct fs => ob (known (some (L.ti t).zero)) fun z => ob (buildAV L st fs z parts.toList) fun v => K (st.put o.dst v)
    | .array n _ => match (L.ti t).ty with
      | .arr _ e => cond (L.ti t).pure (ob (buildArr st e n (List.replicate n e.dflt) parts.toList) fun xs => K (st.put o.dst (.dat (.arr n e) xs))) none
      | _ => none
    | _ => none
  | .buildSlice t len parts => match (L.ti t).k with
    | .slice et => cond (and3 (L.ti et).pure (Nat.ble (Nat.mul len (L.ti et).size) 16777216) true)
        (ob (buildSl st (L.ti et).ty len (List.replicate len (L.ti et).ty.dflt) [] parts.toList) fun p =>
          K (St.put ⟨st.fr, (st.nb, .row (L.ti et).ty p.1) :: kill p.2 st.bl, Nat.add st.nb 1⟩ o.dst (.own st.nb)))
        (cond (Nat.beq (L.ti et).size 0) none (ob (known (some (L.ti et).zero)) fun _ => ob (buildVals st (L.ti et).size (L.ti et).agg 0 parts.toList) fun vs => cond (and3 (Nat.beq (slen parts.toList) len) (Nat.ble (Nat.mul len (L.ti et).size) 16777216) true) (K ((st.new (.vals len (L.ti et).size vs)).put o.dst (.own st.nb))) none))
    | _ => none
  | .load t a => ob (st.opd a) fun x => ob (loadAV L st t x) fun v => K (st.put o.dst v)
  | .store t a x => ob (st.opd a) fun p => ob (st.opd x) fun v => ob (storeAV L st t p v) fun st => K (st.put o.dst .junk)
  | .nilCheck x => ob (st.opd x) fun v => match v with
    | .ptr _ _ | .rptr _ _ _ _ _ | .aptr _ _ _ _ _ _ _ | .iptr _ _ | .vptr _ _ _ _ => K (st.put o.dst v)
    | .fn _ _ => K (st.put o.dst v)
    | _ => none
  | .binOp op t x y _ => match nilOf y with
    | some b => ob (st.opd x) fun a => nilcmp L op t b a fun v => K (st.put o.dst v)
    | none => ob (st.opd x) fun a => ob (st.opd y) fun b => binAV L op t a b fun v => K (st.put o.dst v)
  | .makeInterface t x => match (L.ti t).k with
    | .struct _ => cond (Nat.beq t errTid) (ob (st.opd x) fun v => ob (errOf v) fun n => if 0 < n then K (st.put o.dst (.dat .err n)) else none) none
    | _ => none
  | .unOp op _ x => ob (st.opd x) fun v => match op, v with
    | .not, .dat .bool b => K (st.put o.dst (.dat .bool !b))
    | .neg, .dat (.int k) n => K (st.put o.dst (.dat (.int k) (k.wrap (0 - n))))
    | _, _ => none
  | .convert src dst x => ob (st.opd x) fun v => match plainTy L src, plainTy L dst, v with
    | some (.int _), some (.int k), .dat (.int _) n => K (st.put o.dst (.dat (.int k) (k.wrap n)))
    | some .str, some .str, .dat .str s => K (st.put o.dst (.dat .str s))
    | none, some .str, v => match (L.ti src).k with
      | .slice et => match plainTy L et with
        | some (.int .u8) => ob (rowOf st (.int .u8) v) fun xs => K (st.put o.dst (.dat .str (bytesB xs)))
        | _ => none
      | _ => none
    | _, _, _ => none
  | .makeFunc (.func f) first captured => cond (sempty first.toList) (ob (opdsOf st captured.toList) fun c => K (st.put o.dst (.fn f c))) none
  | .makeMap t none => match (L.ti t).k with
    | .map k v => cond ((L.ti k).pure && (L.ti v).pure) (K ((st.new (.map (L.ti k).ty (L.ti v).ty [])).put o.dst (.mp st.nb))) none
    | _ => none
  | .makeSlice t l c => match (L.ti t).k, l, c with
    | .slice et, .tmp a, .tmp b => cond (Nat.beq a b && (L.ti et).pure) (ob (st.opd l) fun v => match v with
      | .dat (.int _) n => if 0 ≤ n ∧ n * ((L.ti et).bytes : Int) ≤ 140737488355328 then
          K (St.put ⟨st.fr, (st.nb, .row (L.ti et).ty (List.replicate n.toNat (L.ti et).ty.dflt)) :: st.bl, Nat.add st.nb 1⟩ o.dst (.own st.nb)) else none
      | _ => none) none
    | _, _, _ => none
  | .slice t x lo hi mx => match mx with
    | none => ob (st.opd x) fun v => sliceAV L st t v lo hi fun st u => K (st.put o.dst u)
    | some mx => match lo, hi with
      | none, some hi => ob (st.opd x) fun v => slice3AV L st t v hi mx fun st u => K (st.put o.dst u)
      | _, _ => none
  | .fieldAddr t x f => ob (st.opd x) fun v => ob (fieldAddrAV L t v f) fun u => K (st.put o.dst u)
  | .field t x f => match (L.ti t).k with
    | .struct fs => ob (snth fs f) fun p => ob (st.opd x) fun v => cond v.agg (ob (AV.sub p.1 (L.ti p.2).size (L.ti p.2).agg fuel0 v) fun u => K (st.put o.dst u)) none
    | _ => none
  | .indexAddr t x i => ob (st.opd x) fun v => ob (st.opd i) fun j => match j with
    | .dat (.int _) n => indexAddrAV L st t v n fun u => K (st.put o.dst u)
    | _ => none
  | .index t x i => ob (st.opd x) fun v => ob (st.opd i) fun j => match (L.ti t).k, v, j with
    | .array m et, .dat (.arr n e) xs, .dat (.int _) i => cond (and3 (Nat.beq m n) (Nat.beq e.size (L.ti et).size) (beqB e.agg (L.ti et).agg))
      (if 0 ≤ i ∧ i < (n : Int) then K (st.put o.dst (.dat e (xs.getD i.toNat e.dflt))) else none) none
    | .plain, .dat .str s, .dat (.int _) i => match (L.ti t).ty with
      | .str => if 0 ≤ i ∧ i < (s.size : Int) then K (st.put o.dst (.dat (.int .u8) (bt s i))) else none
      | _ => none
    | _, _, _ => none
  | .lookup t x i ok => ob (st.opd x) fun m => ob (st.opd i) fun kv => match m, (L.ti t).k with
    | .mp k, .map kt0 vt => match lk st.bl k with
      | some (.map kt vt' es) => ob (AV.take st.bl kt kv) fun y => cond (and3 (L.ti vt).pure (sempty y.2) (keyIs L kt0 kt))
          (match Ty.same vt' (L.ti vt).ty, ok with
            | some h, false => K (st.put o.dst (.dat vt' ((mget kt vt' es y.1).getD vt'.dflt)))
            | some h, true => K (st.put o.dst (.cons (.dat vt' ((mget kt vt' es y.1).getD vt'.dflt)) (.cons (.dat .bool (mget kt vt' es y.1).isSome) .un)))
            | none, _ => none) none
      | _ => none
    | _, _ => none
  | .mapUpdate t m k v | .insert t m k v => ob (st.opd m) fun m => ob (st.opd k) fun kv => ob (st.opd v) fun vv => match m, (L.ti t).k with
    | .mp k, .map kt0 _ => match lk st.bl k with
      | some (.map kt vt es) => ob (AV.take st.bl kt kv) fun x => ob (AV.take st.bl vt vv) fun y => cond (and3 (sempty x.2) (keyIs L kt0 kt) true)
          (K (St.put ⟨st.fr, (k, .map kt vt (mset kt vt es x.1 y.1)) :: kill y.2 st.bl, st.nb⟩ o.dst .junk)) none
      | _ => none
    | _, _ => none
  | .extract x i => ob (st.tup x) fun v => ob (v.nth i) fun u => K (st.put o.dst u)
  | .call c => match c.callee with
    | .builtin b => builtinAV L st b c.args.toList c.argTypes.toList fun st v => K (st.put o.dst v)
    | _ => none
  | _ => none

/-- A function's result out of its slots. -/
def resAV (st : St) : List ResultVar → Option AV
  | [] => some .un
  | .tmp t :: r => ob (one (lk st.fr t)) fun v => ob (resAV st r) fun w => some (.cons v w)
  | .cell t ty :: r => ob (one (lk st.fr t)) fun p => ob (loadAV L st ty p) fun v => ob (resAV st r) fun w => some (.cons v w)
def resOne : AV → AV
  | .cons a .un => a
  | .un => .junk
  | v => v

def initFr (i : Nat) : AV → List (Nat × AV)
  | .cons a b => (i, a) :: initFr (Nat.add i 1) b
  | _ => []

def isCall : Op → Option (Operand × List Operand)
  | .call c => match c.callee with
    | .value f => some (f, c.args.toList)
    | _ => none
  | _ => none

/-- A variable is not written any more. -/
def frz1 (st : St) (k : Nat) (t : Ty) (x : t.den) : St :=
  ⟨sapp (skeep (fun p => match lk st.fr p.1 with
    | some (.ptr j 0) => cond (Nat.beq j k) (some (p.1, AV.iptr t x)) none
    | _ => none) st.fr) st.fr, (k, .dead) :: st.bl, st.nb⟩
def frzL : List Operand → St → St
  | [], st => st
  | .tmp t :: r, st => match lk st.fr t with
    | some (.ptr k 0) => match lk st.bl k with
      | some (.box (.dat u x)) => frzL r (frz1 st k u x)
      | _ => frzL r st
    | _ => frzL r st
  | _ :: r, st => frzL r st
/-- A row goes over into the memory that is never written: its slots hold data. -/
def frzR (st : St) (k : Nat) (e : Ty) (xs : List e.den) : St :=
  ⟨sapp (skeep (fun p => match lk st.fr p.1 with
    | some (.own j) => cond (Nat.beq j k) (some (p.1, AV.dat (.sl e) xs)) none
    | _ => none) st.fr) st.fr, (k, .dead) :: st.bl, st.nb⟩
def frzRs : List (Nat × Operand) → St → St
  | [], st => st
  | (_, .tmp t) :: r, st => match lk st.fr t with
    | some (.own k) => match lk st.bl k with
      | some (.row e xs) => frzRs r (frzR st k e xs)
      | _ => frzRs r st
    | _ => frzRs r st
  | _ :: r, st => frzRs r st
def freeze (st : St) (o : Oper) : St :=
  match o.op with
  | .makeFunc (.func f) _ captured => cond (L.frz f) (frzL captured.toList st) st
  | .buildSlice _ _ parts => frzRs parts.toList st
  | _ => st

/-- The rows that a call of such a function takes go over into the memory that is never written. -/
def frzCall (st : St) (f : Operand) (args : List Operand) : St :=
  match f with
  | .func g => cond (L.frz g) (frzRs (smap (fun x => (0, x)) args) st) st
  | _ => st
def doCall (inl : Nat → AV → St → (AV → St → Option R) → Option R) (st : St) (dst : Option Nat) (f : Operand) (args : List Operand) (K : St → Option R) : Option R :=
  ob (st.opd f) fun v => match v with
    | .fn g cap => ob (opdsOf st args) fun as => match L.opt g with
      | some e => callOpt st (AV.app as cap) dst K e
      | none => match L.alt g with
        | [] => match L.ent g with
          | [] => inl g (AV.app as cap) st fun r st' => K (St.put ⟨st.fr, st'.bl, st'.nb⟩ dst r)
          | l => callEnt st (AV.app as cap) dst K l
        | l => callAlt st (AV.app as cap) dst K l
    | _ => none
/-- One operation, guard aside; 'inl': what runs a function in place. -/
def doOp (inl : Nat → AV → St → (AV → St → Option R) → Option R) (st : St) (o : Oper) (K : St → Option R) : Option R :=
  match isCall o.op with
  | none => opAV L (freeze L st o) o K
  | some (f, args) => doCall L inl (frzCall L st f args) o.dst f args K

/-- The slot that an operation of a region writes. -/
def dstOf (ops : List Oper) (j : Nat) : Option Nat := ob (snth ops j) fun o => o.dst

/-- An operation with its guard: where the guard is open both ways are gone. -/
def guarded (run : St → (St → Option R) → Option R) (ops : List Oper) (st : St) (o : Oper) (K : St → Option R) : Option R :=
  match o.guard with
  | none => run st K
  | some (j, want) => ob (dstOf ops j) fun d => ob (lk st.fr d) fun v => match v with
    | .dat .bool b => cond b
        (cond want (run (st.set d (.dat .bool true)) K) (K ((st.set d (.dat .bool true)).put o.dst (.cons .junk .un))))
        (cond want (K ((st.set d (.dat .bool false)).put o.dst (.cons .junk .un))) (run (st.set d (.dat .bool false)) K))
    | .cons .junk .un => K (st.put o.dst (.cons .junk .un))
    | _ => none

def seqOps (inl : Nat → AV → St → (AV → St → Option R) → Option R) (ops : List Oper) : List Oper → St → (St → Option R) → Option R
  | [], st, K => K st
  | o :: r, st, K => guarded (fun st K => doOp L inl st o K) ops st o fun st => seqOps inl ops r st K

def snum (l : List Nat) (i : Nat) : Nat := match snth l i with | some x => x | none => 0
def sbit (m j : Nat) : Bool := Nat.beq (Nat.land (Nat.shiftRight m j) 1) 1
def edges (acc : List Nat) : List Edge → Nat → Nat
  | [], s => s
  | e :: r, s => edges acc r (match e.ground with | .textOnly _ | .gcOnly _ => s | _ => Nat.lor (Nat.lor s (Nat.shiftLeft 1 e.on)) (snum acc e.on))
/-- Which operations surely stand before each (a number's bits). -/
def befores : List Oper → List Nat → List Nat
  | [], acc => acc
  | o :: r, acc => befores r (sapp acc [edges acc o.after.toList 0])

/-- What an operation has added. -/
structure Dlt where
  fr : List (Nat × AV)
  bl : List (Nat × Blk)
  nb : Nat
  /-- The blocks that it may see, if not all. -/
  see : Option (List Nat)

/-- The blocks that an operation may see, if not all. -/
def seesV : Option AV → Option (List Nat)
  | some (.own k) => some [k]
  | some (.ptr k _) => some [k]
  | some (.rptr k _ _ _ _) => some [k]
  | some (.aptr k _ _ _ _ _ _) => some [k]
  | some (.vptr k _ _ _) => some [k]
  | some (.dat _ _) => some []
  | some (.iptr _ _) => some []
  | some .nil => some []
  | _ => none
/-- Only data: nothing is seen. -/
def seesD (fr : List (Nat × AV)) : List (Nat × Operand) → Option (List Nat)
  | [] => some []
  | p :: r => match St.opd ⟨fr, [], 0⟩ p.2 with
    | some (.dat _ _) => seesD fr r
    | some .nil => seesD fr r
    | _ => none
def seesO (fr : List (Nat × AV)) (o : Oper) : Option (List Nat) :=
  match o.op with
  | .move _ | .assign _ | .pick _ _ _ | .binOp _ _ _ _ _ | .unOp _ _ _ | .convert _ _ _ | .extract _ _ | .fieldAddr _ _ _ | .nilCheck _ | .field _ _ _ | .index _ _ _ | .makeInterface _ _ => some []
  | .indexAddr _ x _ => seesV (St.opd ⟨fr, [], 0⟩ x)
  | .load _ a => seesV (St.opd ⟨fr, [], 0⟩ a)
  | .slice _ x _ _ _ => seesV (St.opd ⟨fr, [], 0⟩ x)
  | .buildSlice _ _ ps => seesD fr ps.toList
  | .build _ ps => seesD fr ps.toList
  | .alloc _ => some []
  | .call c => match c.callee with
    | .builtin .len => match c.args.toList with
      | [x] => seesV (St.opd ⟨fr, [], 0⟩ x)
      | _ => none
    | .builtin .append => match c.args.toList with
      | [x, y] => ob (seesV (St.opd ⟨fr, [], 0⟩ x)) fun a => ob (seesV (St.opd ⟨fr, [], 0⟩ y)) fun b => some (sapp a b)
      | _ => none
    | _ => none
  | _ => none
def only (ks : List Nat) : List (Nat × Blk) → List (Nat × Blk)
  | [] => []
  | p :: r => cond (has ks p.1) (p :: only ks r) (only ks r)
def seen : Option (List Nat) → List (Nat × Blk) → List (Nat × Blk)
  | none, bl => bl
  | some ks, bl => only ks bl

def joinFr (m : Nat) : Nat → List Dlt → List (Nat × AV)
  | _, [] => []
  | j, d :: r => cond (sbit m (Nat.sub j 1)) (sapp d.fr (joinFr m (Nat.sub j 1) r)) (joinFr m (Nat.sub j 1) r)
def joinBl (m : Nat) : Nat → List Dlt → List (Nat × Blk)
  | _, [] => []
  | j, d :: r => cond (sbit m (Nat.sub j 1)) (sapp d.bl (joinBl m (Nat.sub j 1) r)) (joinBl m (Nat.sub j 1) r)

/-- Are these two not ordered? -/
def unord (bs : List Nat) (i j : Nat) : Bool := cond (Nat.beq i j) false (cond (sbit (snum bs i) j) false (cond (sbit (snum bs j) i) false true))
/-- The slots that the operations that are not ordered against operation i write. -/
def loose (bs : List Nat) (ops : List Oper) (i : Nat) : List Nat :=
  skeep (fun j => cond (unord bs i j) (dstOf ops j) none) (srange 0 (slen ops))

def keysOf {α : Type} (l : List (Nat × α)) : List Nat := smap (fun p => p.1) l

def binding (e : Edge) : Bool := match e.ground with | .textOnly _ | .gcOnly _ => false | _ => true
def dltAt (ds : List Dlt) (i : Nat) : Dlt := match snth ds i with | some d => d | none => ⟨[], [], 0, none⟩
def nuAt (nb : Nat) (ds : List Dlt) : Nat → Nat
  | 0 => nb
  | i + 1 => (dltAt ds i).nb
def afterOf (ops : List Oper) (i : Nat) : List Edge := match snth ops i with | some o => o.after.toList | none => []
def sany {α : Type} (p : α → Bool) : List α → Bool
  | [] => false
  | x :: l => cond (p x) true (sany p l)

/-- Is all as it must be? nb: the first new block's number; ds: what the operations have added, in the text's order. No operation writes a block that one not ordered against it may see, nor a slot that it knows of. -/
def drawBs (bs : List Nat) (ops : List Oper) : Bool :=
  sall (fun i =>
    and3 (sall (fun p => cond (sbit (snum bs i) p) (and3 (Nat.blt p i) (sany (fun e => and3 (binding e) (cond (Nat.beq e.on p) true (sbit (snum bs e.on) p)) true) (afterOf ops i)) true) true) (srange 0 (slen ops)))
      (sall (fun e => cond (binding e) (and3 (Nat.blt e.on i) (sbit (snum bs i) e.on) true) true) (afterOf ops i)) true)
    (srange 0 (slen ops))
def unordL (bs : List Nat) (ops : List Oper) (i : Nat) : List Nat := skeep (fun j => cond (unord bs i j) (some j) none) (srange 0 (slen ops))
/-- Does it surely not see this block? -/
def unseen : Option (List Nat) → Nat → Bool
  | none, _ => false
  | some ks, k => cond (has ks k) false true
def drawOk (bs : List Nat) (ops : List Oper) (nb : Nat) (ds : List Dlt) : Bool :=
  and3 (drawBs bs ops) (sall (fun i =>
      and3 (Nat.ble (nuAt nb ds i) (nuAt nb ds (Nat.add i 1)))
        (match dstOf ops i with | some d => has (keysOf (dltAt ds i).fr) d | none => true)
        (sall (fun j =>
          and3 (sall (fun k => cond (has (keysOf (dltAt ds j).bl) k) false (cond (unseen (dltAt ds j).see k) true (and3 (Nat.ble nb k) (sall (fun p => cond (sbit (snum bs j) p) (cond (has (keysOf (dltAt ds p).bl) k) false true) true) (srange 0 (slen ops))) true))) (keysOf (dltAt ds i).bl))
            (match dstOf ops i with | some d => cond (has (keysOf (dltAt ds j).fr) d) false true | none => true) true) (unordL bs ops i)))
    (srange 0 (slen ops))) true

/-- Is this slot a guard's? -/
def isGuard (ops : List Oper) (d : Nat) : Bool :=
  sany (fun o => match o.guard with
    | some (j, _) => (match dstOf ops j with | some e => Nat.beq e d | none => false)
    | none => false) ops

/-- Behind an operation that a guard asks: its two ways are gone apart. -/
def splitG (ops : List Oper) (o : Oper) (st : St) (K : St → Option R) : Option R :=
  match o.dst with
  | none => K st
  | some d => cond (isGuard ops d) (match lk st.fr d with
    | some (.dat .bool b) => cond b (K (st.set d (.dat .bool true))) (K (st.set d (.dat .bool false)))
    | _ => K st) (K st)

def drawOps (inl : Nat → AV → St → (AV → St → Option R) → Option R) (ops : List Oper) (bs : List Nat) (s0 : St) : Nat → List Oper → Nat → List Dlt → (St → Option R) → Option R
  | j, [], nb, ds, K => cond (drawOk bs ops s0.nb (srev ds [])) (K ⟨sapp (sflat (smap (fun d => d.fr) ds)) s0.fr, sapp (sflat (smap (fun d => d.bl) ds)) s0.bl, nb⟩) none
  | j, o :: r, nb, ds, K =>
    (fun (fr : List (Nat × AV)) => (fun (sr : St) => guarded (fun st K => doOp L inl st o K) ops sr o fun st => splitG ops o st fun st =>
      drawOps inl ops bs s0 (Nat.add j 1) r st.nb (⟨stake (Nat.sub (slen st.fr) (slen sr.fr)) st.fr, stake (Nat.sub (slen st.bl) (slen sr.bl)) st.bl, st.nb, seesO fr o⟩ :: ds) K)
      ⟨fr, seen (seesO fr o) (sapp (joinBl (snum bs j) j ds) s0.bl), nb⟩)
      (sapp (smap (fun t => (t, AV.junk)) (loose bs ops j)) (sapp (joinFr (snum bs j) j ds) s0.fr))

/-- The pointers in these slots, in line. -/
def capOf (fr : List (Nat × AV)) : List Nat → Option AV
  | [] => some .un
  | j :: r => match lk fr j with
    | some (.ptr k o) => ob (capOf fr r) fun c => some (.cons (.ptr k o) c)
    | _ => none
def capIs (fr : List (Nat × AV)) : List Nat → AV → Bool
  | [], .un => true
  | j :: r, .cons (.ptr k o) c => match lk fr j with
    | some (.ptr k' o') => and3 (Nat.beq k k') (Nat.beq o o') (capIs fr r c)
    | _ => false
  | _, _ => false
/-- Do these slots hold functions that have taken hold of other slots' variables? -/
def sameRow : Option AV → Option AV → Bool
  | some (.own k), some (.own j) => Nat.beq k j
  | _, _ => false
def aliOk (fr : List (Nat × AV)) : List (Nat × Nat × List Nat) → Bool
  | [] => true
  | q :: r => cond (Nat.beq q.2.1 0) (match q.2.2 with
    | j :: _ => and3 (sameRow (lk fr q.1) (lk fr j)) (aliOk fr r) true
    | [] => false) (match lk fr q.1 with
    | some (.fn g c) => and3 (Nat.beq g q.2.1) (capIs fr q.2.2 c) (aliOk fr r)
    | _ => false)
/-- Function 0: the slot holds the row that the first of the slots holds. -/
def rowAli (fr : List (Nat × AV)) : List Nat → Option AV
  | j :: _ => match lk fr j with
    | some (.own k) => some (.own k)
    | _ => none
  | [] => none
def withAli (fr : List (Nat × AV)) : List (Nat × Nat × List Nat) → List (Nat × AV)
  | [] => fr
  | q :: r => match cond (Nat.beq q.2.1 0) (rowAli fr q.2.2) (ob (capOf fr q.2.2) fun c => some (.fn q.2.1 c)) with
    | some c => (q.1, c) :: withAli fr r
    | none => withAli fr r

/-- Is this a loop, or a scope with this label? -/
def sameJ : Option Nat → Option Nat → Bool
  | none, none => true
  | some a, some b => Nat.beq a b
  | _, _ => false
/-- A loop is met: the first of its readings whose shapes fit. -/
def callLoop (j : Option Nat) (st : St) (K : Ex → St → Option R) (KR : AV → St → Option R) : List Lent → Option R
  | [] => none
  | e :: r => cond (sameJ e.jmp j) (match ob (slotsOf st.fr e.slots) fun v => ob (Fs.get st.bl e.ins v) fun g => some (v, g) with
    | some p => cond (and3 (aliOk st.fr e.ali) (and3 (apartK p.2.refs p.2.gone) e.ins.sane (Fs.boxed st.bl e.ins p.1)) true) (ob (e.fn p.2.x) fun y =>
        Out.elim e.exits e.rets y
          (fun i m => ob (Fs.after e.ins p.1 e.slots m ⟨sapp (smap (fun t => (t, AV.junk)) e.writes) st.fr, kill (sapp (Fs.lent st.bl e.ins p.1) p.2.gone) st.bl, st.nb⟩) fun st1 => K (.exit i) st1)
          (fun x => KR (Sh.mk e.res x ⟨st.fr, kill (sapp p.2.refs p.2.gone) st.bl, st.nb⟩).1 (Sh.mk e.res x ⟨st.fr, kill (sapp p.2.refs p.2.gone) st.bl, st.nb⟩).2)) none
    | none => callLoop j st K KR r) (callLoop j st K KR r)

/-- A loop of few rounds, written out. -/
def unroll (body : (Ex → St → Option R) → (AV → St → Option R) → St → Option R) : Nat → (Ex → St → Option R) → (AV → St → Option R) → St → Option R
  | 0, _, _, _ => none
  | m + 1, K, KR, st => body (fun e st => match e with | .normal => unroll body m K KR st | e => K e st) KR st

/-- A code of function f, from a state on. 'res': the function's results. -/
def ev (inl : Nat → AV → St → (AV → St → Option R) → Option R) (f : Nat) (res : List ResultVar) : Code → Nat → (Ex → St → Option R) → (AV → St → Option R) → St → Option R
  | .skip, _, K, _, st => K .normal st
  | .region _ ops false, _, K, _, st => seqOps L inl ops.toList ops.toList st fun st => K .normal st
  | .region _ ops true, _, K, _, st => drawOps L inl ops.toList (befores ops.toList []) st 0 ops.toList st.nb [] fun st => K .normal st
  | .seq a b, n, K, KR, st => ev inl f res a n (fun e st => match e with | .normal => ev inl f res b n K KR st | e => K e st) KR st
  | .cond c a b, n, K, KR, st => ob (st.opd c) fun v => match v with
    | .dat .bool t => cond t (ev inl f res a n K KR st) (ev inl f res b n K KR st)
    | _ => none
  | .block i c, _, K, KR, st => ev inl f res c i (fun e st => match e with | .exit j => cond (Nat.beq j i) (K .normal st) (K (.exit j) st) | e => K e st) KR st
  | .loop c, n, K, KR, st => match L.loop f n with
    | [] => unroll (fun K KR st => ev inl f res c n K KR st) 8 K KR st
    | l => callLoop none st K KR l
  | .rangeFunc _ _ _ _, n, K, _, st => cond (tmpsOnly res) (match L.rng f n with
    | some rd => ob (rd st) fun p => cond p.1 (K .normal p.2) none
    | none => none) none
  | .exit i, _, K, _, st => K (.exit i) st
  | .ret, _, _, KR, st => ob (resAV L st res) fun v => KR (resOne v) st
  | .goto l, _, K, _, st => K (.goto l) st
  | .label _, _, K, _, st => K .normal st
  | .scope c, n, K, KR, st => match labOf c with
    | some l => ev inl f res c n (fun e st => match e with | .goto j => cond (Nat.beq j l) (callLoop (some l) st K KR (L.loop f (jid l))) none | e => K e st) KR st
    | none => none
  | _, _, _, _, _ => none

/-- A function run in place, at most d deep. -/
def inPlace : Nat → Nat → AV → St → (AV → St → Option R) → Option R
  | 0, _, _, _, _ => none
  | d + 1, f, args, st, K => ob (L.body f) fun fn => ob fn.body fun c =>
      ev L (inPlace d) f fn.results.toList c 0
        (fun e st => match e with | .normal => ob (resAV L st fn.results.toList) fun v => K (resOne v) st | _ => none)
        K ⟨initFr 0 args, st.bl, st.nb⟩

end

/-- The arguments of these shapes. -/
def Fs.args (l : Fs) (x : l.ty.den) (st : St) : AV × St := Sh.mk l.sh x st

/-- What is given back of data. -/
def Fs.proj : (l : Fs) → l.ty.den → l.back.den
  | [], _ => ()
  | (_, true) :: r, x => (x.1, Fs.proj r x.2)
  | (_, false) :: r, x => Fs.proj r x.2

/-- What comes back into the arguments' data. -/
def Fs.merge : (l : Fs) → l.ty.den → l.back.den → l.ty.den
  | [], x, _ => x
  | (_, true) :: r, x, m => (m.1, Fs.merge r x.2 m.2)
  | (_, false) :: r, x, m => (x.1, Fs.merge r x.2 m)

/-- The blocks behind what is not given back. -/
def Fs.fixed : Fs → AV → List Nat
  | (.own _, false) :: r, .cons (.own k) v => k :: Fs.fixed r v
  | (.map _ _, false) :: r, .cons (.mp k) v => k :: Fs.fixed r v
  | (.box (.dat _), false) :: r, .cons (.ptr k _) v => k :: Fs.fixed r v
  | _ :: r, .cons _ v => Fs.fixed r v
  | _, _ => []

/-- At the end of a function: the result's data and what is given back. -/
def finish (ins : Fs) (res : Sh) (args : AV) (b0 : List (Nat × Blk)) (v : AV) (st : St) : Option (res.ty.den × ins.back.den) :=
  ob (Sh.res st.bl res v) fun g => ob (Fs.get st.bl ins args) fun h => cond (and3 (apartK (sapp g.refs h.refs) (sapp g.gone h.gone)) ins.sane
      (sall (fun k => cond (has (keysOf (stake (Nat.sub (slen st.bl) (slen b0)) st.bl)) k) false true) (Fs.fixed ins args)))
    (some (g.x, ins.proj h.x)) none

/-- What a function computes, by its own code. -/
def evFn (L : Lib) (d f : Nat) (res : List ResultVar) (c : Code) (ins : Fs) (rs : Sh) (x : ins.ty.den) : Option (rs.ty.den × ins.back.den) :=
  (fun (p : AV × St) =>
    ev L (inPlace L d) f res c 0 (fun e st => match e with | .normal => ob (resAV L st res) fun v => finish ins rs p.1 p.2.bl (resOne v) st | _ => none)
      (fun v st => finish ins rs p.1 p.2.bl v st) ⟨initFr 0 p.1, p.2.bl, p.2.nb⟩) (ins.args x ⟨[], [], 0⟩)

/-- At the end of a function that returns nil or a slice that is not empty. -/
def finishO (e : Ty) (v : AV) (st : St) : Option (Option (List e.den)) :=
  match v with
  | .nil => some none
  | v => ob (Sh.get st.bl (.dat (.sl e)) v) fun g => cond (decide (0 < g.x.length)) (some (some g.x)) none
def evFnO (L : Lib) (d f : Nat) (res : List ResultVar) (c : Code) (ins : Fs) (et : Ty) (x : ins.ty.den) : Option (Option (List et.den)) :=
  (fun (p : AV × St) =>
    ev L (inPlace L d) f res c 0 (fun e st => match e with | .normal => ob (resAV L st res) fun v => finishO et (resOne v) st | _ => none)
      (fun v st => finishO et v st) ⟨initFr 0 p.1, p.2.bl, p.2.nb⟩) (ins.args x ⟨[], [], 0⟩)

/-- One round of a loop, by its own code; 'rc': the rounds that follow. -/
def evLoop (L : Lib) (d f : Nat) (res : List ResultVar) (c : Code) (n : Nat) (slots : List Nat) (ali : List (Nat × Nat × List Nat)) (ins : Fs) (exits : List Nat) (rets : Bool) (rs : Sh)
    (rc : ins.ty.den → Option (Out ins.back.den rs.ty.den exits rets)) (x : ins.ty.den) : Option (Out ins.back.den rs.ty.den exits rets) :=
  (fun (s0 : St) => ob (slotsOf s0.fr slots) fun a0 =>
    ev L (inPlace L d) f res c n
      (fun e st => ob (slotsOf st.fr slots) fun v => ob (Fs.get st.bl ins v) fun g =>
        cond (and3 (apartK g.refs g.gone) ins.sane (sall (fun k => cond (has (keysOf (stake (Nat.sub (slen st.bl) (slen s0.bl)) st.bl)) k) false true) (Fs.fixed ins a0)))
        (match e with
          | .normal => rc (ins.merge x (ins.proj g.x))
          | .exit i => Out.exit exits rets i (ins.proj g.x)
          | .goto _ => none) none)
      (fun v st => ob (Sh.res st.bl rs v) fun g => cond (apartK g.refs g.gone) (Out.ret exits rets g.x) none) s0) ((fun (s0 : St) => ⟨withAli s0.fr ali, s0.bl, s0.nb⟩) (ins.mk slots x ⟨[], [], 0⟩))

end Go.Pv

/- What data are in memory: 'Rep', and its laws. -/
set_option linter.unusedVariables false
namespace Go.Pv

def RepRow {α : Type} (R : α → List Value → Prop) : List α → List Value → Prop
  | [], cs => cs = []
  | x :: xs, cs => ∃ c r, cs = c ++ r ∧ R x c ∧ RepRow R xs r

def CellsAt (w : World) (b o : Nat) (ds : List Value) : Prop := ∀ j d, ds[j]? = some d → w.cell? ⟨b, o + j, none⟩ = some d

def Rep (S : Nat → Prop) (w : World) : (t : Ty) → t.den → List Value → Prop
  | .int k, x, cs => cs = [.int k x]
  | .bool, x, cs => cs = [.bool x]
  | .str, x, cs => cs = [.string x]
  | .sl e, xs, cs => ∃ A cap, cs = [.slice A xs.length cap] ∧ xs.length ≤ cap ∧
      (0 < xs.length → ∃ b o ds, A = some ⟨b, o, none⟩ ∧ S b ∧ CellsAt w b o ds ∧ RepRow (Rep S w e) xs ds)
  | .arr n e, xs, cs => xs.length = n ∧ RepRow (Rep S w e) xs cs
  | .pr a b, x, cs => ∃ c r, cs = c ++ r ∧ Rep S w a x.1 c ∧ Rep S w b x.2 r
  | .un, _, cs => cs = []
  | .err, x, cs => ((x : Int) = 0 ∧ cs = [.nilIface]) ∨ ((0 : Int) < x ∧ cs = [.iface errTid (.agg #[.int .i64 x])]) ∨ ((x : Int) < 0 ∧ ∃ t v, cs = [.iface t v])
  | .np, _, cs => cs = [.pointer none]

theorem RepRow.imp {α : Type} {R R' : α → List Value → Prop} (h : ∀ x c, R x c → R' x c) : ∀ {xs : List α} {cs : List Value}, RepRow R xs cs → RepRow R' xs cs
  | [], _, hr => hr
  | _ :: _, _, ⟨c, r, e, h1, h2⟩ => ⟨c, r, e, h _ _ h1, RepRow.imp h h2⟩

theorem RepRow.length {α : Type} {R : α → List Value → Prop} {n : Nat} (h : ∀ x c, R x c → c.length = n) : ∀ {xs : List α} {cs : List Value}, RepRow R xs cs → cs.length = xs.length * n
  | [], _, hr => by rw [hr]; simp
  | x :: xs, cs, ⟨c, r, e, h1, h2⟩ => by
    rw [e, List.length_append, h _ _ h1, RepRow.length h h2, List.length_cons, Nat.add_mul, Nat.one_mul, Nat.add_comm]

theorem Rep.length {S : Nat → Prop} {w : World} : ∀ {t : Ty} {x : t.den} {cs : List Value}, Rep S w t x cs → cs.length = t.size
  | .int _, _, _, h => by rw [Rep] at h; rw [h]; rfl
  | .bool, _, _, h => by rw [Rep] at h; rw [h]; rfl
  | .str, _, _, h => by rw [Rep] at h; rw [h]; rfl
  | .sl _, _, _, ⟨_, _, h, _⟩ => by rw [h]; rfl
  | .arr n e, xs, cs, ⟨h1, h2⟩ => by
    have := RepRow.length (n := e.size) (fun x c h => Rep.length h) h2
    rw [this, h1]; rfl
  | .pr a b, x, cs, ⟨c, r, e, h1, h2⟩ => by
    rw [e, List.length_append, Rep.length h1, Rep.length h2]; rfl
  | .un, _, _, h => by rw [Rep] at h; rw [h]; rfl
  | .err, x, cs, h => by
    have h : ((x : Int) = 0 ∧ cs = [.nilIface]) ∨ ((0 : Int) < x ∧ cs = [.iface errTid (.agg #[.int .i64 x])]) ∨ ((x : Int) < 0 ∧ ∃ t v, cs = [.iface t v]) := h
    rcases h with ⟨_, h⟩ | ⟨_, h⟩ | ⟨_, _, _, h⟩ <;> (rw [h]; rfl)
  | .np, _, cs, h => by have h : cs = [.pointer none] := h; rw [h]; rfl

theorem cell_of_heap {w w' : World} {b : Nat} (h : w'.heap[b]? = w.heap[b]?) (o : Nat) : w'.cell? ⟨b, o, none⟩ = w.cell? ⟨b, o, none⟩ := by
  simp [World.cell?, h]

theorem CellsAt.move {w w' : World} {b o : Nat} {ds : List Value} (h : CellsAt w b o ds) (hb : w'.heap[b]? = w.heap[b]?) : CellsAt w' b o ds :=
  fun j d hd => (cell_of_heap hb _).trans (h j d hd)

theorem Rep.move {S S' : Nat → Prop} {w w' : World} (hS : ∀ b, S b → S' b) (hw : ∀ b, S b → w'.heap[b]? = w.heap[b]?) :
    ∀ {t : Ty} {x : t.den} {cs : List Value}, Rep S w t x cs → Rep S' w' t x cs
  | .int _, _, _, h => h
  | .bool, _, _, h => h
  | .str, _, _, h => h
  | .sl e, xs, cs, ⟨A, cap, h1, h2, h3⟩ => ⟨A, cap, h1, h2, fun h0 => by
      obtain ⟨b, o, ds, e1, e2, e3, e4⟩ := h3 h0
      exact ⟨b, o, ds, e1, hS _ e2, e3.move (hw _ e2), e4.imp fun x c h => Rep.move hS hw h⟩⟩
  | .arr n e, xs, cs, ⟨h1, h2⟩ => ⟨h1, h2.imp fun x c h => Rep.move hS hw h⟩
  | .pr a b, x, cs, ⟨c, r, e, h1, h2⟩ => ⟨c, r, e, Rep.move hS hw h1, Rep.move hS hw h2⟩
  | .un, _, _, h => h
  | .err, _, _, h => h
  | .np, _, _, h => h

theorem RepRow.get {α : Type} {R : α → List Value → Prop} {n : Nat} (hn : ∀ x c, R x c → c.length = n) (d : α) : ∀ {xs : List α} {cs : List Value} (i : Nat), RepRow R xs cs → i < xs.length →
    R (xs.getD i d) ((cs.drop (i * n)).take n)
  | [], _, i, _, hi => by simp at hi
  | x :: xs, cs, 0, ⟨c, r, e, h1, h2⟩, _ => by
    have := hn _ _ h1
    simp only [e, Nat.zero_mul, List.drop_zero]
    rw [List.take_append_of_le_length (by omega), List.take_of_length_le (by omega)]
    simpa using h1
  | x :: xs, cs, i + 1, ⟨c, r, e, h1, h2⟩, hi => by
    have hl := hn _ _ h1
    have ih := RepRow.get hn d i h2 (by simpa using hi)
    have : cs.drop ((i + 1) * n) = r.drop (i * n) := by
      rw [e, Nat.add_mul, Nat.one_mul, Nat.add_comm, ← List.drop_drop]
      congr 1
      rw [List.drop_append_of_le_length (by omega), List.drop_of_length_le (by omega)]
      simp
    rw [this]
    simpa using ih

theorem RepRow.set {α : Type} {R : α → List Value → Prop} {n : Nat} (hn : ∀ x c, R x c → c.length = n) : ∀ {xs : List α} {cs : List Value} (i : Nat) (y : α) (c' : List Value), RepRow R xs cs → i < xs.length → R y c' →
    RepRow R (xs.set i y) (cs.take (i * n) ++ c' ++ cs.drop (i * n + n))
  | [], _, i, _, _, _, hi, _ => by simp at hi
  | x :: xs, cs, 0, y, c', ⟨c, r, e, h1, h2⟩, _, hy => by
    have hl := hn _ _ h1
    refine ⟨c', r, ?_, hy, h2⟩
    simp only [e, Nat.zero_mul, List.take_zero, List.nil_append, Nat.zero_add]
    congr 1
    rw [List.drop_append_of_le_length (by omega), List.drop_of_length_le (by omega)]
    simp
  | x :: xs, cs, i + 1, y, c', ⟨c, r, e, h1, h2⟩, hi, hy => by
    have hl := hn _ _ h1
    have ih := RepRow.set hn i y c' h2 (by simpa using hi) hy
    refine ⟨c, _, ?_, h1, ih⟩
    have e1 : (i + 1) * n = n + i * n := by rw [Nat.add_mul, Nat.one_mul, Nat.add_comm]
    rw [e, e1]
    have t1 : (c ++ r).take (n + i * n) = c ++ r.take (i * n) := by
      rw [List.take_append]
      rw [List.take_of_length_le (by omega)]
      congr 2; omega
    have d1 : (c ++ r).drop (n + i * n + n) = r.drop (i * n + n) := by
      rw [List.drop_append, List.drop_of_length_le (by omega)]
      simp; congr 1; omega
    rw [t1, d1]
    simp [List.append_assoc]

theorem RepRow.append {α : Type} {R : α → List Value → Prop} : ∀ {xs ys : List α} {cs ds : List Value}, RepRow R xs cs → RepRow R ys ds → RepRow R (xs ++ ys) (cs ++ ds)
  | [], _, cs, ds, h, k => by rw [RepRow] at h; subst h; simpa using k
  | x :: xs, ys, cs, ds, ⟨c, r, e, h1, h2⟩, k => ⟨c, r ++ ds, by rw [e, List.append_assoc], h1, RepRow.append h2 k⟩

theorem RepRow.take {α : Type} {R : α → List Value → Prop} {n : Nat} (hn : ∀ x c, R x c → c.length = n) : ∀ {xs : List α} {cs : List Value} (i : Nat), RepRow R xs cs → RepRow R (xs.take i) (cs.take (i * n))
  | [], cs, i, h => by rw [RepRow] at h; subst h; simp [RepRow]
  | x :: xs, cs, 0, h => by simp [RepRow]
  | x :: xs, cs, i + 1, ⟨c, r, e, h1, h2⟩ => by
    have hl := hn _ _ h1
    refine ⟨c, r.take (i * n), ?_, h1, RepRow.take hn i h2⟩
    have e1 : (i + 1) * n = n + i * n := by rw [Nat.add_mul, Nat.one_mul, Nat.add_comm]
    rw [e, e1, List.take_append, List.take_of_length_le (by omega)]
    congr 2; omega

theorem RepRow.drop {α : Type} {R : α → List Value → Prop} {n : Nat} (hn : ∀ x c, R x c → c.length = n) : ∀ {xs : List α} {cs : List Value} (i : Nat), RepRow R xs cs → RepRow R (xs.drop i) (cs.drop (i * n))
  | [], cs, i, h => by rw [RepRow] at h; subst h; simp [RepRow]
  | x :: xs, cs, 0, h => by simpa using h
  | x :: xs, cs, i + 1, ⟨c, r, e, h1, h2⟩ => by
    have hl := hn _ _ h1
    have e1 : (i + 1) * n = n + i * n := by rw [Nat.add_mul, Nat.one_mul, Nat.add_comm]
    have : cs.drop ((i + 1) * n) = r.drop (i * n) := by
      rw [e, e1, ← List.drop_drop]
      congr 1
      rw [List.drop_append_of_le_length (by omega), List.drop_of_length_le (by omega)]
      simp
    rw [this]
    exact RepRow.drop hn i h2

theorem RepRow.replicate {α : Type} {R : α → List Value → Prop} {x : α} {c : List Value} (h : R x c) : ∀ n, RepRow R (List.replicate n x) (List.replicate n c).flatten
  | 0 => rfl
  | n + 1 => ⟨c, _, by rw [List.replicate_succ, List.flatten_cons], h, RepRow.replicate h n⟩

structure LensOk (n : Nat) (e t : Ty) (get : List e.den → t.den) (put : List e.den → t.den → List e.den) (δ : Nat) : Prop where
  len : ∀ xs y, xs.length = n → (put xs y).length = n
  fits : δ + t.size ≤ n * e.size
  get : ∀ S w xs ds, xs.length = n → RepRow (Rep S w e) xs ds → Rep S w t (get xs) ((ds.drop δ).take t.size)
  put : ∀ S w xs ds y c, xs.length = n → RepRow (Rep S w e) xs ds → Rep S w t y c → RepRow (Rep S w e) (put xs y) (ds.take δ ++ c ++ ds.drop (δ + t.size))

theorem LensOk.elem (n : Nat) (e : Ty) (i : Nat) (hi : i < n) : LensOk n e e (fun l => l.getD i e.dflt) (fun l y => l.set i y) (i * e.size) where
  len xs y h := by simpa using h
  fits := by
    have : (i + 1) * e.size ≤ n * e.size := Nat.mul_le_mul_right _ hi
    rw [Nat.add_mul, Nat.one_mul] at this; exact this
  get S w xs ds h hr := RepRow.get (R := Rep S w e) (fun x c h => Rep.length h) e.dflt i hr (by omega)
  put S w xs ds y c h hr hy := RepRow.set (fun x c h => Rep.length h) i y c hr (by omega) hy

/-- A lens inside one datum. -/
structure InOk (t u : Ty) (get : t.den → u.den) (put : t.den → u.den → t.den) (δ : Nat) : Prop where
  fits : δ + u.size ≤ t.size
  get : ∀ S w x cs, Rep S w t x cs → Rep S w u (get x) ((cs.drop δ).take u.size)
  put : ∀ S w x cs y c, Rep S w t x cs → Rep S w u y c → Rep S w t (put x y) (cs.take δ ++ c ++ cs.drop (δ + u.size))

theorem LensOk.comp {n : Nat} {e t u : Ty} {get : List e.den → t.den} {put : List e.den → t.den → List e.den} {δ : Nat} {g : t.den → u.den} {p : t.den → u.den → t.den} {η : Nat}
    (h : LensOk n e t get put δ) (k : InOk t u g p η) : LensOk n e u (fun l => g (get l)) (fun l y => put l (p (get l) y)) (δ + η) where
  len xs y hx := h.len _ _ hx
  fits := by have := h.fits; have := k.fits; omega
  get S w xs ds hx hr := by
    have := k.get S w _ _ (h.get S w xs ds hx hr)
    rw [List.drop_take, List.drop_drop, List.take_take, Nat.min_eq_left (by have := k.fits; omega)] at this
    exact this
  put S w xs ds y c hx hr hy := by
    have h0 := h.get S w xs ds hx hr
    have h1 := k.put S w _ _ y c h0 hy
    have h2 := h.put S w xs ds _ _ hx hr h1
    have f1 := h.fits
    have f2 := k.fits
    have hl : ds.length = n * e.size := by rw [RepRow.length (fun x c h => Rep.length h) hr, hx]
    have e1 : ds.take δ ++ (((ds.drop δ).take t.size).take η ++ c ++ ((ds.drop δ).take t.size).drop (η + u.size)) ++ ds.drop (δ + t.size) =
        ds.take (δ + η) ++ c ++ ds.drop (δ + η + u.size) := by
      have a1 : ((ds.drop δ).take t.size).take η = (ds.drop δ).take η := by rw [List.take_take, Nat.min_eq_left (by omega)]
      have a2 : ((ds.drop δ).take t.size).drop (η + u.size) ++ ds.drop (δ + t.size) = ds.drop (δ + η + u.size) := by
        rw [List.drop_take, List.drop_drop]
        have : ds.drop (δ + t.size) = (ds.drop (δ + (η + u.size))).drop (t.size - (η + u.size)) := by
          rw [List.drop_drop]; congr 1; omega
        rw [this, List.take_append_drop]; congr 1; omega
      have a3 : ds.take δ ++ (ds.drop δ).take η = ds.take (δ + η) := by rw [List.take_add]
      rw [a1]
      simp only [List.append_assoc]
      rw [a2, ← List.append_assoc, a3]
    rw [e1] at h2
    exact h2

theorem InOk.elem (n : Nat) (e : Ty) (i : Nat) (hi : i < n) : InOk (.arr n e) e (fun l => List.getD l i e.dflt) (fun l y => List.set l i y) (i * e.size) where
  fits := (LensOk.elem n e i hi).fits
  get S w x cs h := (LensOk.elem n e i hi).get S w x cs h.1 h.2
  put S w x cs y c h hy := ⟨by simpa using h.1, (LensOk.elem n e i hi).put S w x cs y c h.1 h.2 hy⟩

theorem InOk.refl (t : Ty) : InOk t t (fun x => x) (fun _ y => y) 0 where
  fits := by omega
  get S w x cs h := by
    have := Rep.length h
    simpa [List.take_of_length_le, this] using h
  put S w x cs y c h hy := by
    have := Rep.length h
    simpa [List.drop_of_length_le, this] using hy

theorem InOk.fst {a b u : Ty} {g : a.den → u.den} {p : a.den → u.den → a.den} {δ : Nat} (h : InOk a u g p δ) :
    InOk (.pr a b) u (fun x => g x.1) (fun x y => (p x.1 y, x.2)) δ where
  fits := by have := h.fits; show _ ≤ a.size + b.size; omega
  get S w x cs hr := by
    obtain ⟨c, r, e, h1, h2⟩ := hr
    have hl := Rep.length h1
    have := h.get S w _ _ h1
    have hf := h.fits
    rw [e, List.drop_append_of_le_length (by omega), List.take_append_of_le_length (by simp; omega)]
    exact this
  put S w x cs y c hr hy := by
    obtain ⟨c1, r, e, h1, h2⟩ := hr
    have hl := Rep.length h1
    have := h.put S w _ _ y c h1 hy
    have hf := h.fits
    refine ⟨_, r, ?_, this, h2⟩
    rw [e, List.take_append_of_le_length (by omega), List.drop_append_of_le_length (by omega)]
    simp [List.append_assoc]

theorem InOk.snd {a b u : Ty} {g : b.den → u.den} {p : b.den → u.den → b.den} {δ : Nat} (h : InOk b u g p δ) :
    InOk (.pr a b) u (fun x => g x.2) (fun x y => (x.1, p x.2 y)) (a.size + δ) where
  fits := by have := h.fits; show _ ≤ a.size + b.size; omega
  get S w x cs hr := by
    obtain ⟨c, r, e, h1, h2⟩ := hr
    have hl := Rep.length h1
    have := h.get S w _ _ h2
    rw [e, List.drop_append, List.drop_of_length_le (by omega), hl, Nat.add_sub_cancel_left]
    simpa using this
  put S w x cs y c hr hy := by
    obtain ⟨c1, r, e, h1, h2⟩ := hr
    have hl := Rep.length h1
    have := h.put S w _ _ y c h2 hy
    refine ⟨c1, _, ?_, h1, this⟩
    rw [e, List.take_append, List.take_of_length_le (by omega), List.drop_append, List.drop_of_length_le (by omega)]
    have e1 : a.size + δ - c1.length = δ := by omega
    have e2 : a.size + δ + u.size - c1.length = δ + u.size := by omega
    simp [e1, e2, List.append_assoc]

theorem Ty.at_ok {u : Ty} : ∀ {t : Ty} {off : Nat} {l : Lens t u}, Ty.at off u t = some l → InOk t u l.get l.put off
  | .pr a b, off, l, h => by
    rw [Ty.at] at h
    split at h
    · rename_i hs
      cases h
      cases hoff : Nat.beq off 0 with
      | false => rw [hoff] at hs; simp at hs
      | true =>
        have := Nat.eq_of_beq_eq_true hoff
        subst this
        rename_i hh
        obtain ⟨rfl⟩ := hh
        exact InOk.refl _
    · cases hb : Nat.blt off a.size with
      | true =>
        rw [hb] at h
        simp only [cond_true] at h
        cases hr : Ty.at off u a with
        | none => rw [hr] at h; simp [ob] at h
        | some l' =>
          rw [hr] at h; simp only [ob, Option.some.injEq] at h; subst h
          exact (Ty.at_ok hr).fst
      | false =>
        rw [hb] at h
        simp only [cond_false] at h
        cases hr : Ty.at (Nat.sub off a.size) u b with
        | none => rw [hr] at h; simp [ob] at h
        | some l' =>
          rw [hr] at h; simp only [ob, Option.some.injEq] at h; subst h
          have := (Ty.at_ok hr).snd (a := a)
          have hge : a.size ≤ off := by
            rcases Nat.lt_or_ge off a.size with hlt | hge
            · have : Nat.blt off a.size = true := by rw [Nat.blt_eq]; exact hlt
              rw [this] at hb; cases hb
            · exact hge
          have e : a.size + Nat.sub off a.size = off := by show a.size + (off - a.size) = off; omega
          rw [e] at this
          exact this
  | .int k, off, l, h => Ty.at_ok_plain h (by intro a b hh; cases hh)
  | .bool, off, l, h => Ty.at_ok_plain h (by intro a b hh; cases hh)
  | .str, off, l, h => Ty.at_ok_plain h (by intro a b hh; cases hh)
  | .sl e, off, l, h => Ty.at_ok_plain h (by intro a b hh; cases hh)
  | .arr n e, off, l, h => Ty.at_ok_plain h (by intro a b hh; cases hh)
  | .un, off, l, h => Ty.at_ok_plain h (by intro a b hh; cases hh)
  | .err, off, l, h => Ty.at_ok_plain h (by intro a b hh; cases hh)
  | .np, off, l, h => Ty.at_ok_plain h (by intro a b hh; cases hh)
where
  Ty.at_ok_plain {t : Ty} {off : Nat} {l : Lens t u} (h : Ty.at off u t = some l) (hp : ∀ a b, t ≠ .pr a b) : InOk t u l.get l.put off := by
    have h' : (match cond (Nat.beq off 0) (Ty.same t u) none with
      | some h => some (⟨fun x => Ty.as h.out x, fun _ y => Ty.as h.out.symm y⟩ : Lens t u)
      | none => none) = some l := by
      cases t <;> first | exact absurd rfl (hp _ _) | (rw [Ty.at] at h; exact h; all_goals (intro a b hh; cases hh))
    split at h'
    · rename_i hs
      cases h'
      cases hoff : Nat.beq off 0 with
      | false => rw [hoff] at hs; simp at hs
      | true =>
        have := Nat.eq_of_beq_eq_true hoff
        subst this
        rename_i hh
        obtain ⟨rfl⟩ := hh
        exact InOk.refl _
    · cases h'

end Go.Pv

/- States of the reading against frames and worlds of the model. -/
set_option linter.unusedVariables false
namespace Go.Pv

/-- Where a block lies: its number; of a row: the elements, the first cell, the capacity; nl: a nil slice, no block at all. -/
structure At where
  b : Nat
  n : Nat
  o : Nat
  cap : Nat
  nl : Bool

def rowVal (p : At) : Value := .slice (cond p.nl none (some ⟨p.b, p.o, none⟩)) p.n p.cap

section
variable (μ : Nat → Option At) (S : Nat → Prop) (w : World)

/-- A value of the reading, and the cells (g = false) or the list of values (g = true) that it stands for. -/
def RX : Bool → AV → List Value → Prop
  | false, .dat t x, cs => Rep S w t x cs
  | false, .own k, cs => ∃ p, μ k = some p ∧ cs = [rowVal p]
  | false, .nil, cs => cs = [.slice none 0 0]
  | false, .ptr k off, cs => ∃ p, μ k = some p ∧ cs = [.pointer (some ⟨p.b, off, none⟩)]
  | false, .rptr k e t get put, cs => ∃ p δ, μ k = some p ∧ cs = [.pointer (some ⟨p.b, p.o + δ, none⟩)] ∧ LensOk p.n e t get put δ
  | false, .aptr k off n e t get put, cs => ∃ p δ, μ k = some p ∧ cs = [.pointer (some ⟨p.b, off + δ, none⟩)] ∧ LensOk n e t get put δ
  | false, .vptr k sz i off, cs => ∃ p, μ k = some p ∧ cs = [.pointer (some ⟨p.b, i * sz + off, none⟩)]
  | false, .iptr t x, cs => ∃ b o ds, cs = [.pointer (some ⟨b, o, none⟩)] ∧ S b ∧ CellsAt w b o ds ∧ Rep S w t x ds
  | false, .fn f cap, cs => ∃ vs : List Value, cs = [.func (.func f) #[] vs.toArray] ∧ RX true cap vs
  | false, .nilfn, cs => cs = [.nilFunc]
  | false, .mp k, cs => ∃ p, μ k = some p ∧ cs = [.map (some p.b)]
  | false, .pr a b, cs => ∃ c r, cs = c ++ r ∧ RX false a c ∧ RX false b r
  | false, .un, cs => cs = []
  | false, .cons _ _, _ => False
  | false, .junk, _ => False
  | true, .cons a b, vs => ∃ v r, vs = v :: r ∧ (cond a.agg (∃ cs : List Value, v = .agg cs.toArray ∧ RX false a cs) (RX false a [v])) ∧ RX true b r
  | true, .un, vs => vs = []
  | true, _, _ => False

abbrev RC := RX μ S w false
abbrev RL := RX μ S w true

/-- A value of the reading, and a slot's value. -/
def RV (a : AV) (v : Value) : Prop :=
  match a with
  | .junk => True
  | .cons x y => (x = .junk ∧ y = .un ∧ v = undef) ∨ ∃ vs : List Value, v = .tuple vs.toArray ∧ RL μ S w (.cons x y) vs
  | a => cond a.agg (∃ cs : List Value, v = .agg cs.toArray ∧ RC μ S w a cs) (RC μ S w a [v])

/-- The cells of a literal row of values. -/
def RVals (sz : Nat) : AV → List Value → Prop
  | .cons a b, cs => ∃ c r, cs = c ++ r ∧ c.length = sz ∧ RC μ S w a c ∧ RVals sz b r
  | .un, cs => cs = []
  | _, _ => False

def ValOf (t : Ty) (x : t.den) (v : Value) : Prop := cond t.agg (∃ cs : List Value, v = .agg cs.toArray ∧ Rep S w t x cs) (Rep S w t x [v])

def REnts (kt vt : Ty) : List (kt.den × vt.den) → List MapEntry → Prop
  | [], es => es = []
  | p :: r, es => ∃ e es', es = e :: es' ∧ ValOf S w kt p.1 e.key ∧ ValOf S w vt p.2 e.val ∧ REnts kt vt r es'

def RB (k : Nat) : Blk → Prop
  | .box v => ∃ p, μ k = some p ∧ p.nl = false ∧ ∃ (cs : List Value) (ty : TypeId), w.heap[p.b]? = some (.cells cs.toArray ty (0, 0)) ∧ RC μ S w v cs
  | .row e xs => ∃ p, μ k = some p ∧ p.n = xs.length ∧ ((p.nl = true ∧ xs = [] ∧ p.cap = 0) ∨
      (p.nl = false ∧ ∃ (cs : List Value) (ty : TypeId), w.heap[p.b]? = some (.cells cs.toArray ty (0, 0)) ∧ xs.length ≤ p.cap ∧ p.cap ≤ maxLen ∧ p.o + p.cap * e.size ≤ cs.length ∧
        RepRow (Rep S w e) xs ((cs.drop p.o).take (xs.length * e.size))))
  | .vals n sz vs => ∃ p, μ k = some p ∧ p.nl = false ∧ p.n = n ∧ p.o = 0 ∧ p.cap = n ∧ ∃ (cs : List Value) (ty : TypeId), w.heap[p.b]? = some (.cells cs.toArray ty (0, 0)) ∧ RVals μ S w sz vs cs
  | .map kt vt es => ∃ p, μ k = some p ∧ p.nl = false ∧ ∃ (ents : Array MapEntry) (clock : Nat), w.heap[p.b]? = some (.map ents clock) ∧ REnts S w kt vt es ents.toList ∧ MapKept.Stamped ents clock
  | .dead => True
end

/-- Block b is one of the state's own. -/
def Liv (μ : Nat → Option At) (bl : List (Nat × Blk)) (b : Nat) : Prop :=
  ∃ k x p, lk bl k = some x ∧ x ≠ .dead ∧ μ k = some p ∧ p.nl = false ∧ p.b = b

/-- What lies in memory from the start on is never written. -/
def Gl (S : Nat → Prop) (w : World) : Prop := ∀ q ∈ glob, S q.1 ∧ ∃ cs ty fr, w.heap[q.1]? = some (.cells cs ty fr) ∧ q.2 cs.toList
theorem Gl.move {S S' : Nat → Prop} {w w' : World} (h : Gl S w) (hS : ∀ b, S b → S' b) (hw : ∀ b, S b → w'.heap[b]? = w.heap[b]?) : Gl S' w' := fun q hq => by
  obtain ⟨h1, cs, ty, fr, h2, h3⟩ := h q hq
  exact ⟨hS _ h1, cs, ty, fr, (hw _ h1).trans h2, h3⟩

structure SimB (μ : Nat → Option At) (S : Nat → Prop) (w : World) (bl : List (Nat × Blk)) (nb : Nat) : Prop where
  dom : ∀ k p, μ k = some p → k < nb
  blk : ∀ k x, lk bl k = some x → RB μ S w k x
  old : ∀ b, Liv μ bl b → b < w.heap.size ∧ ¬ S b
  inj : ∀ k k' x x' p p', lk bl k = some x → lk bl k' = some x' → x ≠ .dead → x' ≠ .dead → μ k = some p → μ k' = some p' → p.nl = false → p'.nl = false → p.b = p'.b → k = k'
  sb : ∀ b, S b → b < w.heap.size
  gl : Gl S w

structure SimF (μ : Nat → Option At) (S : Nat → Prop) (w : World) (fr : List (Nat × AV)) (a : Act) : Prop where
  slot : ∀ t v, lk fr t = some v → RV μ S w v (a.tmps.getD t undef)

/-- How much has been drawn (a seat that calls what says nothing of it has 0 here). -/
abbrev dr (w : World) : Nat := w.drawn
theorem dr_succ (w : World) : dr w ≤ dr { w with drawn := w.drawn + 1 } := by simp [dr]
/-- Nothing is told, and what is drawn is drawn. -/
def OutOk (w w' : World) : Prop := w'.output = w.output ∧ dr w ≤ dr w'
theorem OutOk.trans {w w1 w2 : World} (k : OutOk w1 w2) (h : OutOk w w1) : OutOk w w2 := ⟨k.1.trans h.1, Nat.le_trans h.2 k.2⟩

/-- What a stretch of the run has done: blocks that are not the state's own are as they were. -/
structure Evo (L S : Nat → Prop) (w : World) (μ : Nat → Option At) (L' S' : Nat → Prop) (w' : World) (μ' : Nat → Option At) : Prop where
  os : w'.os = w.os
  tape : w'.tape = w.tape
  output : OutOk w w'
  size : w.heap.size ≤ w'.heap.size
  same : ∀ b, b < w.heap.size → ¬ L b → w'.heap[b]? = w.heap[b]?
  sub : ∀ b, S b → S' b
  new : ∀ b, S' b → S b ∨ w.heap.size ≤ b ∨ L b
  liv : ∀ b, L' b → L b ∨ w.heap.size ≤ b
  mu : ∀ k p, μ k = some p → μ' k = some p

theorem Evo.refl (L S : Nat → Prop) (w : World) (μ : Nat → Option At) : Evo L S w μ L S w μ :=
  ⟨rfl, rfl, ⟨rfl, Nat.le_refl _⟩, Nat.le_refl _, fun _ _ _ => rfl, fun _ h => h, fun _ h => .inl h, fun _ h => .inl h, fun _ _ h => h⟩

theorem Evo.trans {L S L1 S1 L2 S2 : Nat → Prop} {w w1 w2 : World} {μ μ1 μ2 : Nat → Option At} (h : Evo L S w μ L1 S1 w1 μ1) (k : Evo L1 S1 w1 μ1 L2 S2 w2 μ2) : Evo L S w μ L2 S2 w2 μ2 where
  os := k.os.trans h.os
  tape := k.tape.trans h.tape
  output := k.output.trans h.output
  size := Nat.le_trans h.size k.size
  same b hb hL := by
    refine (k.same b (Nat.lt_of_lt_of_le hb h.size) ?_).trans (h.same b hb hL)
    intro h1
    rcases h.liv b h1 with h2 | h2
    · exact hL h2
    · omega
  sub b hb := k.sub b (h.sub b hb)
  new b hb := by
    rcases k.new b hb with h1 | h1 | h1
    · exact h.new b h1
    · exact .inr (.inl (Nat.le_trans h.size h1))
    · rcases h.liv b h1 with h2 | h2
      · exact .inr (.inr h2)
      · exact .inr (.inl h2)
  liv b hb := by
    rcases k.liv b hb with h1 | h1
    · exact h.liv b h1
    · exact .inr (Nat.le_trans h.size h1)
  mu i p hp := k.mu i p (h.mu i p hp)

section move
variable {μ μ' : Nat → Option At} {S S' : Nat → Prop} {w w' : World}

/-- Values stay what they are where the state's own references stay, and memory that is never written stays. -/
theorem RX.move (hm : ∀ k p, μ k = some p → μ' k = some p) (hS : ∀ b, S b → S' b) (hw : ∀ b, S b → w'.heap[b]? = w.heap[b]?) :
    ∀ {a : AV} {g : Bool} {cs : List Value}, RX μ S w g a cs → RX μ' S' w' g a cs := by
  intro a
  induction a with
  | dat t x => intro g cs h; cases g with | false => exact Rep.move hS hw h | true => exact h.elim
  | own k => intro g cs h; cases g with | false => obtain ⟨p, hp, e⟩ := h; exact ⟨p, hm _ _ hp, e⟩ | true => exact h.elim
  | nil => intro g cs h; cases g with | false => exact h | true => exact h.elim
  | ptr k off => intro g cs h; cases g with | false => obtain ⟨p, hp, e⟩ := h; exact ⟨p, hm _ _ hp, e⟩ | true => exact h.elim
  | rptr k e t get put => intro g cs h; cases g with | false => obtain ⟨p, δ, hp, e1, l⟩ := h; exact ⟨p, δ, hm _ _ hp, e1, l⟩ | true => exact h.elim
  | aptr k off n e t get put => intro g cs h; cases g with | false => obtain ⟨p, δ, hp, e1, l⟩ := h; exact ⟨p, δ, hm _ _ hp, e1, l⟩ | true => exact h.elim
  | vptr k sz i off => intro g cs h; cases g with | false => obtain ⟨p, hp, e⟩ := h; exact ⟨p, hm _ _ hp, e⟩ | true => exact h.elim
  | iptr t x => intro g cs h; cases g with | false => obtain ⟨b, o, ds, e, hb, hc, hr⟩ := h; exact ⟨b, o, ds, e, hS _ hb, hc.move (hw _ hb), Rep.move hS hw hr⟩ | true => exact h.elim
  | fn f cap ih => intro g cs h; cases g with | false => obtain ⟨vs, e, hr⟩ := h; exact ⟨vs, e, ih hr⟩ | true => exact h.elim
  | nilfn => intro g cs h; cases g with | false => exact h | true => exact h.elim
  | mp k => intro g cs h; cases g with | false => obtain ⟨p, hp, e⟩ := h; exact ⟨p, hm _ _ hp, e⟩ | true => exact h.elim
  | pr a b iha ihb => intro g cs h; cases g with | false => obtain ⟨c, r, e, h1, h2⟩ := h; exact ⟨c, r, e, iha h1, ihb h2⟩ | true => exact h.elim
  | cons a b iha ihb =>
    intro g cs h
    cases g with
    | false => exact h.elim
    | true =>
      obtain ⟨v, r, e, h1, h2⟩ := h
      refine ⟨v, r, e, ?_, ihb h2⟩
      cases hg : a.agg with
      | true => rw [hg] at h1; obtain ⟨cs, e1, h3⟩ := h1; exact ⟨cs, e1, iha h3⟩
      | false => rw [hg] at h1; exact iha h1
  | un => intro g cs h; cases g with | false => exact h | true => exact h
  | junk => intro g cs h; cases g with | false => exact h.elim | true => exact h.elim

theorem RV.move (hm : ∀ k p, μ k = some p → μ' k = some p) (hS : ∀ b, S b → S' b) (hw : ∀ b, S b → w'.heap[b]? = w.heap[b]?) {a : AV} {v : Value} (h : RV μ S w a v) : RV μ' S' w' a v := by
  have key : ∀ a : AV, cond a.agg (∃ cs : List Value, v = .agg cs.toArray ∧ RC μ S w a cs) (RC μ S w a [v]) → cond a.agg (∃ cs : List Value, v = .agg cs.toArray ∧ RC μ' S' w' a cs) (RC μ' S' w' a [v]) := by
    intro a h
    cases hg : a.agg with
    | true => rw [hg] at h; obtain ⟨cs, e, h1⟩ := h; exact ⟨cs, e, RX.move hm hS hw h1⟩
    | false => rw [hg] at h; exact RX.move hm hS hw h
  cases a with
  | junk => trivial
  | cons x y =>
    rcases h with h | ⟨vs, e, h1⟩
    · exact .inl h
    · exact .inr ⟨vs, e, RX.move hm hS hw h1⟩
  | dat t x => exact key (.dat t x) h
  | own k => exact key (.own k) h
  | nil => exact key (.nil) h
  | ptr k o => exact key (.ptr k o) h
  | rptr k e t g p => exact key (.rptr k e t g p) h
  | aptr k o n e t g p => exact key (.aptr k o n e t g p) h
  | vptr k s i o => exact key (.vptr k s i o) h
  | iptr t x => exact key (.iptr t x) h
  | fn f c => exact key (.fn f c) h
  | nilfn => exact key (.nilfn) h
  | mp k => exact key (.mp k) h
  | pr a b => exact key (.pr a b) h
  | un => exact key (.un) h

theorem RVals.move {sz : Nat} (hm : ∀ k p, μ k = some p → μ' k = some p) (hS : ∀ b, S b → S' b) (hw : ∀ b, S b → w'.heap[b]? = w.heap[b]?) : ∀ {a : AV} {cs : List Value}, RVals μ S w sz a cs → RVals μ' S' w' sz a cs := by
  intro a
  induction a with
  | cons a b iha ihb => intro cs h; obtain ⟨c, r, e, hl, h1, h2⟩ := h; exact ⟨c, r, e, hl, RX.move hm hS hw h1, ihb h2⟩
  | un => intro cs h; exact h
  | _ => intro cs h; exact h.elim

theorem ValOf.move {t : Ty} {x : t.den} {v : Value} (hS : ∀ b, S b → S' b) (hw : ∀ b, S b → w'.heap[b]? = w.heap[b]?) (h : ValOf S w t x v) : ValOf S' w' t x v := by
  unfold ValOf at h ⊢
  cases hg : t.agg with
  | true => rw [hg] at h; obtain ⟨cs, e, h1⟩ := h; exact ⟨cs, e, Rep.move hS hw h1⟩
  | false => rw [hg] at h; exact Rep.move hS hw h

theorem REnts.move {kt vt : Ty} (hS : ∀ b, S b → S' b) (hw : ∀ b, S b → w'.heap[b]? = w.heap[b]?) : ∀ {es : List (kt.den × vt.den)} {l : List MapEntry}, REnts S w kt vt es l → REnts S' w' kt vt es l
  | [], _, h => h
  | _ :: _, _, ⟨e, es', e1, h1, h2, h3⟩ => ⟨e, es', e1, h1.move hS hw, h2.move hS hw, REnts.move hS hw h3⟩

/-- A block that has not turned. -/
theorem RB.move (hm : ∀ k p, μ k = some p → μ' k = some p) (hS : ∀ b, S b → S' b) (hw : ∀ b, S b → w'.heap[b]? = w.heap[b]?) {k : Nat} {x : Blk}
    (hk : ∀ p, μ k = some p → p.nl = false → x ≠ .dead → w'.heap[p.b]? = w.heap[p.b]?) (h : RB μ S w k x) : RB μ' S' w' k x := by
  cases x with
  | box v =>
    obtain ⟨p, hp, hn, cs, ty, h1, h2⟩ := h
    exact ⟨p, hm _ _ hp, hn, cs, ty, (hk p hp hn (by simp)).trans h1, RX.move hm hS hw h2⟩
  | row e xs =>
    obtain ⟨p, hp, hn, h1⟩ := h
    refine ⟨p, hm _ _ hp, hn, ?_⟩
    rcases h1 with h1 | ⟨hnl, cs, ty, h1, h2, h3, h4, h5⟩
    · exact .inl h1
    · exact .inr ⟨hnl, cs, ty, (hk p hp hnl (by simp)).trans h1, h2, h3, h4, h5.imp fun x c h => Rep.move hS hw h⟩
  | vals n sz vs =>
    obtain ⟨p, hp, hn, h1, h2, h5, cs, ty, h3, h4⟩ := h
    exact ⟨p, hm _ _ hp, hn, h1, h2, h5, cs, ty, (hk p hp hn (by simp)).trans h3, RVals.move hm hS hw h4⟩
  | map kt vt es =>
    obtain ⟨p, hp, hn, ents, clock, h1, h2⟩ := h
    exact ⟨p, hm _ _ hp, hn, ents, clock, (hk p hp hn (by simp)).trans h1, REnts.move hS hw h2.1, h2.2⟩
  | dead => trivial
end move

theorem lk_cons {α : Type} (p : Nat × α) (l : List (Nat × α)) (k : Nat) : lk (p :: l) k = if p.1 = k then some p.2 else lk l k := by
  rw [lk]
  by_cases h : p.1 = k
  · have : Nat.beq p.1 k = true := by rw [Nat.beq_eq]; exact h
    rw [this, if_pos h]; rfl
  · have : Nat.beq p.1 k = false := by
      cases hb : Nat.beq p.1 k with
      | true => exact absurd (Nat.eq_of_beq_eq_true hb) h
      | false => rfl
    rw [this, if_neg h]; rfl

theorem sapp_eq {α : Type} : ∀ (l m : List α), sapp l m = l ++ m
  | [], _ => rfl
  | x :: l, m => by rw [sapp, sapp_eq l m]; rfl

theorem ob_some {α β : Type} {o : Option α} {f : α → Option β} {r : β} (h : ob o f = some r) : ∃ x, o = some x ∧ f x = some r := by
  cases o with
  | none => simp [ob] at h
  | some x => exact ⟨x, rfl, h⟩

theorem lk_kill {ks : List Nat} {bl : List (Nat × Blk)} {k : Nat} {x : Blk} (h : lk (kill ks bl) k = some x) : (x = .dead ∧ k ∈ ks) ∨ (k ∉ ks ∧ lk bl k = some x) := by
  induction ks with
  | nil => exact .inr ⟨by simp, h⟩
  | cons j r ih =>
    rw [kill, lk_cons] at h
    split at h
    · rename_i hj; cases h; exact .inl ⟨rfl, by simp at hj; simp [hj]⟩
    · rename_i hj
      rcases ih h with ⟨h1, h2⟩ | ⟨h1, h2⟩
      · exact .inl ⟨h1, by simp [h2]⟩
      · refine .inr ⟨?_, h2⟩
        simp only [List.mem_cons, not_or]
        exact ⟨fun e => hj e.symm, h1⟩

end Go.Pv

/- Steps of states: a new block, a block that turns, rows that go over into memory that is never written; slots. -/
set_option linter.unusedVariables false
namespace Go.Pv

/-- A state's step: from here to there. -/
def StepB (μ : Nat → Option At) (S : Nat → Prop) (w : World) (bl : List (Nat × Blk)) (nb : Nat) (μ' : Nat → Option At) (S' : Nat → Prop) (w' : World) (bl' : List (Nat × Blk)) (nb' : Nat) : Prop :=
  SimB μ' S' w' bl' nb' ∧ Evo (Liv μ bl) S w μ (Liv μ' bl') S' w' μ' ∧ nb ≤ nb' ∧ ∀ k, k < nb → μ' k = μ k

theorem StepB.refl {μ : Nat → Option At} {S : Nat → Prop} {w : World} {bl : List (Nat × Blk)} {nb : Nat} (h : SimB μ S w bl nb) : StepB μ S w bl nb μ S w bl nb :=
  ⟨h, Evo.refl _ _ _ _, Nat.le_refl _, fun _ _ => rfl⟩

theorem StepB.trans {μ μ1 μ2 : Nat → Option At} {S S1 S2 : Nat → Prop} {w w1 w2 : World} {bl bl1 bl2 : List (Nat × Blk)} {nb nb1 nb2 : Nat}
    (h : StepB μ S w bl nb μ1 S1 w1 bl1 nb1) (k : StepB μ1 S1 w1 bl1 nb1 μ2 S2 w2 bl2 nb2) : StepB μ S w bl nb μ2 S2 w2 bl2 nb2 :=
  ⟨k.1, h.2.1.trans k.2.1, Nat.le_trans h.2.2.1 k.2.2.1, fun i hi => (k.2.2.2 i (Nat.lt_of_lt_of_le hi h.2.2.1)).trans (h.2.2.2 i hi)⟩

/-- Memory that is never written stays over a step. -/
theorem StepB.still {μ μ' : Nat → Option At} {S S' : Nat → Prop} {w w' : World} {bl bl' : List (Nat × Blk)} {nb nb' : Nat} (h0 : SimB μ S w bl nb) (h : StepB μ S w bl nb μ' S' w' bl' nb') :
    ∀ b, S b → w'.heap[b]? = w.heap[b]? :=
  fun b hb => h.2.1.same b (h0.sb b hb) (fun hl => (h0.old b hl).2 hb)

theorem RX.step {μ μ' : Nat → Option At} {S S' : Nat → Prop} {w w' : World} {bl bl' : List (Nat × Blk)} {nb nb' : Nat} (h0 : SimB μ S w bl nb) (h : StepB μ S w bl nb μ' S' w' bl' nb')
    {a : AV} {g : Bool} {cs : List Value} (hr : RX μ S w g a cs) : RX μ' S' w' g a cs := RX.move h.2.1.mu h.2.1.sub (h.still h0) hr
theorem RV.step {μ μ' : Nat → Option At} {S S' : Nat → Prop} {w w' : World} {bl bl' : List (Nat × Blk)} {nb nb' : Nat} (h0 : SimB μ S w bl nb) (h : StepB μ S w bl nb μ' S' w' bl' nb')
    {a : AV} {v : Value} (hr : RV μ S w a v) : RV μ' S' w' a v := RV.move h.2.1.mu h.2.1.sub (h.still h0) hr
theorem Rep.step {μ μ' : Nat → Option At} {S S' : Nat → Prop} {w w' : World} {bl bl' : List (Nat × Blk)} {nb nb' : Nat} (h0 : SimB μ S w bl nb) (h : StepB μ S w bl nb μ' S' w' bl' nb')
    {t : Ty} {x : t.den} {cs : List Value} (hr : Rep S w t x cs) : Rep S' w' t x cs := Rep.move h.2.1.sub (h.still h0) hr
theorem SimF.step {μ μ' : Nat → Option At} {S S' : Nat → Prop} {w w' : World} {bl bl' : List (Nat × Blk)} {nb nb' : Nat} (h0 : SimB μ S w bl nb) (h : StepB μ S w bl nb μ' S' w' bl' nb')
    {fr : List (Nat × AV)} {a : Act} (hf : SimF μ S w fr a) : SimF μ' S' w' fr a := ⟨fun t v hv => (hf.slot t v hv).step h0 h⟩

/-- The mark of a loop over a function. -/
def mark (D : Nat) : Deferred := { target := .collected D, args := #[] }
/-- The deferred calls: those that there were, and since then marks of loops over functions (only where T holds). -/
def Mk (T : Prop) (n : Nat) (l0 : List Deferred) (S : Nat → Prop) (w : World) (l : List Deferred) : Prop :=
  ∃ Ds : List Nat, Ds.Nodup ∧ l = Ds.map mark ++ l0 ∧ (Ds = [] ∨ T) ∧ ∀ D ∈ Ds, n ≤ D ∧ ¬ S D ∧ w.heap[D]? = some (.deferred (some []))
theorem Mk.refl {T : Prop} {n : Nat} {l : List Deferred} {S : Nat → Prop} {w : World} : Mk T n l S w l := ⟨[], by simp, rfl, .inl rfl, by simp⟩
theorem Mk.move {T : Prop} {n : Nat} {l l0 : List Deferred} {S S' : Nat → Prop} {w w' : World} (h : Mk T n l0 S w l) (hs : ∀ D, ¬ S D → w.heap[D]? = some (.deferred (some [])) → ¬ S' D ∧ w'.heap[D]? = some (.deferred (some []))) : Mk T n l0 S' w' l := by
  obtain ⟨Ds, h1, h2, h3, h4⟩ := h
  exact ⟨Ds, h1, h2, h3, fun D hD => ⟨(h4 D hD).1, hs D (h4 D hD).2.1 (h4 D hD).2.2⟩⟩
theorem Mk.trans {T : Prop} {n : Nat} {l l' l0 : List Deferred} {S S0 : Nat → Prop} {w w0 : World} (h : Mk T n l0 S0 w0 l) (hn : n ≤ w0.heap.size) (k : Mk T w0.heap.size l S w l') (hs : ∀ D, ¬ S0 D → w0.heap[D]? = some (.deferred (some [])) → ¬ S D ∧ w.heap[D]? = some (.deferred (some []))) : Mk T n l0 S w l' := by
  obtain ⟨Ds, h1, h2, h3, h4⟩ := h
  obtain ⟨Es, k1, k2, k3, k4⟩ := k
  refine ⟨Es ++ Ds, ?_, by rw [k2, h2, List.map_append, List.append_assoc], ?_, ?_⟩
  · rw [List.nodup_append]
    refine ⟨k1, h1, fun a ha b hb e => ?_⟩
    have h5 := (k4 a ha).1
    have h6 := (Array.getElem?_eq_some_iff.1 (h4 b hb).2.2).1
    omega
  · rcases k3 with rfl | hT
    · rcases h3 with rfl | hT
      · exact .inl rfl
      · exact .inr hT
    · exact .inr hT
  · intro D hD
    rcases List.mem_append.1 hD with hD | hD
    · obtain ⟨g1, g2⟩ := k4 D hD
      exact ⟨Nat.le_trans hn g1, g2⟩
    · obtain ⟨g1, g2, g3⟩ := h4 D hD
      exact ⟨g1, hs D g2 g3⟩
theorem Mk.imp {T T' : Prop} {n : Nat} {l l0 : List Deferred} {S : Nat → Prop} {w : World} (h : Mk T n l0 S w l) (ht : T → T') : Mk T' n l0 S w l := by
  obtain ⟨Ds, h1, h2, h3, h4⟩ := h
  exact ⟨Ds, h1, h2, h3.imp id ht, h4⟩
/-- A block of the state's own is no mark's. -/
theorem Liv.no {μ : Nat → Option At} {S : Nat → Prop} {w : World} {bl : List (Nat × Blk)} {nb : Nat} (h : SimB μ S w bl nb) {b : Nat} (hl : Liv μ bl b) {x : Option (List Deferred)} : w.heap[b]? ≠ some (.deferred x) := by
  obtain ⟨k, y, p, hk, hy, hp, hn, rfl⟩ := hl
  have hr := h.blk k y hk
  intro e
  cases y with
  | box v => obtain ⟨q, hq, _, cs, ty, hc, _⟩ := hr; rw [hp] at hq; cases hq; rw [hc] at e; cases e
  | row t xs =>
    obtain ⟨q, hq, _, hh⟩ := hr
    rw [hp] at hq; cases hq
    rcases hh with ⟨h1, _⟩ | ⟨_, cs, ty, hc, _⟩
    · rw [hn] at h1; cases h1
    · rw [hc] at e; cases e
  | vals n sz vs => obtain ⟨q, hq, _, _, _, _, cs, ty, hc, _⟩ := hr; rw [hp] at hq; cases hq; rw [hc] at e; cases e
  | map kt vt es => obtain ⟨q, hq, _, es', cl, hc, _⟩ := hr; rw [hp] at hq; cases hq; rw [hc] at e; cases e
  | dead => exact hy rfl
theorem StepB.mark {μ μ' : Nat → Option At} {S S' : Nat → Prop} {w w' : World} {bl bl' : List (Nat × Blk)} {nb nb' : Nat} (h0 : SimB μ S w bl nb) (h : StepB μ S w bl nb μ' S' w' bl' nb') :
    ∀ D, ¬ S D → w.heap[D]? = some (.deferred (some [])) → ¬ S' D ∧ w'.heap[D]? = some (.deferred (some [])) := by
  intro D hS hD
  have hlt := (Array.getElem?_eq_some_iff.1 hD).1
  have hl : ¬ Liv μ bl D := fun hl => Liv.no h0 hl hD
  refine ⟨fun hs => ?_, (h.2.1.same D hlt hl).trans hD⟩
  rcases h.2.1.new D hs with g | g | g
  · exact hS g
  · omega
  · exact hl g
/-- The marks' blocks are shut. -/
def shut : List Nat → World → World
  | [], w => w
  | D :: r, w => shut r (w.putObj D (.deferred none))
theorem shut_heap : ∀ {Ds : List Nat} {w : World} {b : Nat}, b ∉ Ds → (shut Ds w).heap[b]? = w.heap[b]?
  | [], w, b, h => rfl
  | D :: r, w, b, h => by
    simp only [List.mem_cons, not_or] at h
    rw [shut, shut_heap h.2]
    exact World.putObj_heap_other h.1
theorem shut_same : ∀ (Ds : List Nat) (w : World), (shut Ds w).os = w.os ∧ (shut Ds w).tape = w.tape ∧ OutOk w (shut Ds w) ∧ (shut Ds w).heap.size = w.heap.size
  | [], w => ⟨rfl, rfl, ⟨rfl, Nat.le_refl _⟩, rfl⟩
  | D :: r, w => by
    obtain ⟨h1, h2, h3, h4⟩ := shut_same r (w.putObj D (.deferred none))
    exact ⟨h1, h2, h3, h4.trans World.putObj_size⟩
/-- A world in which marks' blocks are shut. -/
def Shut (n : Nat) (S : Nat → Prop) (w w' : World) : Prop := ∃ Ds : List Nat, (∀ D ∈ Ds, n ≤ D ∧ ¬ S D ∧ w.heap[D]? = some (.deferred (some []))) ∧ w' = shut Ds w
theorem Shut.still {n : Nat} {S : Nat → Prop} {w w' : World} (h : Shut n S w w') : ∀ b, S b → w'.heap[b]? = w.heap[b]? := by
  obtain ⟨Ds, h1, rfl⟩ := h
  exact fun b hb => shut_heap fun hin => (h1 b hin).2.1 hb
theorem RV.shutD {n : Nat} {μ : Nat → Option At} {S : Nat → Prop} {w w' : World} (h : Shut n S w w') {a : AV} {v : Value} (hr : RV μ S w a v) : RV μ S w' a v := RV.move (fun _ _ h => h) (fun _ h => h) h.still hr
theorem StepB.shutD {μ μ' : Nat → Option At} {S S' : Nat → Prop} {w w' w'' : World} {bl bl' : List (Nat × Blk)} {nb nb' : Nat} (h : StepB μ S w bl nb μ' S' w' bl' nb') (hs : Shut w.heap.size S' w' w'') : StepB μ S w bl nb μ' S' w'' bl' nb' := by
  have hst := hs.still
  obtain ⟨Ds, h1, rfl⟩ := hs
  obtain ⟨e1, e2, e3, e4⟩ := shut_same Ds w'
  have hliv : ∀ b, Liv μ' bl' b → (shut Ds w').heap[b]? = w'.heap[b]? := fun b hb => shut_heap fun hin => Liv.no h.1 hb (h1 b hin).2.2
  have he := h.2.1
  refine ⟨⟨h.1.dom, fun k x hk => ?_, fun b hb => ?_, h.1.inj, fun b hb => by rw [e4]; exact h.1.sb b hb, h.1.gl.move (fun _ h => h) hst⟩, ⟨e1.trans he.os, e2.trans he.tape, e3.trans he.output, by rw [e4]; exact he.size, fun b hb hl => ?_, he.sub, he.new, he.liv, he.mu⟩, h.2.2⟩
  · by_cases hx : x = .dead
    · subst hx; trivial
    · exact RB.move (fun _ _ h => h) (fun _ h => h) hst (fun p hp hn _ => hliv _ ⟨k, x, p, hk, hx, hp, hn, rfl⟩) (h.1.blk k x hk)
  · rw [e4]; exact h.1.old b hb
  · exact (shut_heap fun hin => by have := (h1 b hin).1; omega).trans (he.same b hb hl)
theorem Mk.step {T : Prop} {n : Nat} {l l0 : List Deferred} {μ μ' : Nat → Option At} {S S' : Nat → Prop} {w w' : World} {bl bl' : List (Nat × Blk)} {nb nb' : Nat} (m : Mk T n l0 S w l) (h0 : SimB μ S w bl nb) (h : StepB μ S w bl nb μ' S' w' bl' nb') : Mk T n l0 S' w' l :=
  m.move (h.mark h0)

/-- One place more. -/
def upd (μ : Nat → Option At) (k : Nat) (p : At) : Nat → Option At := fun j => if j = k then some p else μ j
theorem upd_self (μ : Nat → Option At) (k : Nat) (p : At) : upd μ k p k = some p := by simp [upd]
theorem upd_old {μ : Nat → Option At} {k j : Nat} {p q : At} (h : μ j = some q) (hk : j ≠ k) : upd μ k p j = some q := by simp [upd, hk, h]

section
variable {μ : Nat → Option At} {S : Nat → Prop} {w : World} {bl : List (Nat × Blk)} {nb : Nat}

/-- A new block. -/
theorem StepB.new (h : SimB μ S w bl nb) {w' : World} {p : At} {x : Blk} (hp : p.b = w.heap.size) (hnl : p.nl = false)
    (hos : w'.os = w.os) (htape : w'.tape = w.tape) (hout : OutOk w w') (hsize : w'.heap.size = w.heap.size + 1) (hold : ∀ b, b < w.heap.size → w'.heap[b]? = w.heap[b]?)
    (hx : RB (upd μ nb p) S w' nb x) : StepB μ S w bl nb (upd μ nb p) S w' ((nb, x) :: bl) (nb + 1) := by
  have hne : ∀ k q, μ k = some q → k ≠ nb := fun k q hk e => by have := h.dom k q hk; omega
  have hmu : ∀ k q, μ k = some q → upd μ nb p k = some q := fun k q hk => upd_old hk (hne k q hk)
  have hS : ∀ b, S b → w'.heap[b]? = w.heap[b]? := fun b hb => hold b (h.sb b hb)
  have hliv : ∀ b, Liv (upd μ nb p) ((nb, x) :: bl) b → Liv μ bl b ∨ b = w.heap.size := by
    rintro b ⟨k, y, q, hk, hy, hq, hn, hb⟩
    rw [lk_cons] at hk
    by_cases hkn : nb = k
    · subst hkn; rw [upd_self] at hq; cases hq; exact .inr (by rw [← hb, hp])
    · rw [if_neg hkn] at hk
      rw [upd, if_neg (fun e => hkn e.symm)] at hq
      exact .inl ⟨k, y, q, hk, hy, hq, hn, hb⟩
  refine ⟨⟨?_, ?_, ?_, ?_, ?_, h.gl.move (fun _ h => h) hS⟩, ⟨hos, htape, hout, by omega, fun b hb _ => hold b hb, fun _ h => h, fun _ h => .inl h, ?_, hmu⟩, by omega, fun k hk => by rw [upd, if_neg (by omega)]⟩
  · intro k q hk
    by_cases hkn : k = nb
    · omega
    · rw [upd, if_neg hkn] at hk; have := h.dom k q hk; omega
  · intro k y hk
    rw [lk_cons] at hk
    by_cases hkn : nb = k
    · rw [if_pos hkn] at hk; cases hk; subst hkn; exact hx
    · rw [if_neg hkn] at hk
      exact RB.move hmu (fun _ h => h) hS (fun q hq hn hy => hold _ (h.old _ ⟨k, y, q, hk, hy, hq, hn, rfl⟩).1) (h.blk k y hk)
  · intro b hb
    rcases hliv b hb with h1 | rfl
    · exact ⟨by have := (h.old b h1).1; omega, (h.old b h1).2⟩
    · exact ⟨by omega, fun hs => by have := h.sb _ hs; omega⟩
  · intro k k' y y' q q' hk hk' hy hy' hq hq' hn hn' hb
    rw [lk_cons] at hk hk'
    by_cases h1 : nb = k <;> by_cases h2 : nb = k'
    · omega
    · subst h1; rw [upd_self] at hq; cases hq
      rw [if_neg h2] at hk'; rw [upd, if_neg (fun e => h2 e.symm)] at hq'
      have := (h.old _ ⟨k', y', q', hk', hy', hq', hn', rfl⟩).1
      omega
    · subst h2; rw [upd_self] at hq'; cases hq'
      rw [if_neg h1] at hk; rw [upd, if_neg (fun e => h1 e.symm)] at hq
      have := (h.old _ ⟨k, y, q, hk, hy, hq, hn, rfl⟩).1
      omega
    · rw [if_neg h1] at hk; rw [if_neg h2] at hk'
      rw [upd, if_neg (fun e => h1 e.symm)] at hq; rw [upd, if_neg (fun e => h2 e.symm)] at hq'
      exact h.inj k k' y y' q q' hk hk' hy hy' hq hq' hn hn' hb
  · intro b hb; have := h.sb b hb; omega
  · intro b hb
    rcases hliv b hb with h1 | rfl
    · exact .inl h1
    · exact .inr (Nat.le_refl _)

/-- A new nil row. -/
theorem StepB.newNil (h : SimB μ S w bl nb) {w' : World} {p : At} {e : Ty} (hnl : p.nl = true) (hn : p.n = 0) (hc : p.cap = 0)
    (hos : w'.os = w.os) (htape : w'.tape = w.tape) (hout : OutOk w w') (hheap : w'.heap = w.heap) : StepB μ S w bl nb (upd μ nb p) S w' ((nb, .row e []) :: bl) (nb + 1) := by
  have hne : ∀ k q, μ k = some q → k ≠ nb := fun k q hk e => by have := h.dom k q hk; omega
  have hmu : ∀ k q, μ k = some q → upd μ nb p k = some q := fun k q hk => upd_old hk (hne k q hk)
  have hold : ∀ b : Nat, w'.heap[b]? = w.heap[b]? := fun b => by rw [hheap]
  have hliv : ∀ b, Liv (upd μ nb p) ((nb, .row e []) :: bl) b → Liv μ bl b := by
    rintro b ⟨k, y, q, hk, hy, hq, hn, hb⟩
    rw [lk_cons] at hk
    by_cases hkn : nb = k
    · subst hkn; rw [upd_self] at hq; cases hq; rw [hnl] at hn; cases hn
    · rw [if_neg hkn] at hk
      rw [upd, if_neg (fun e => hkn e.symm)] at hq
      exact ⟨k, y, q, hk, hy, hq, hn, hb⟩
  refine ⟨⟨?_, ?_, ?_, ?_, ?_, h.gl.move (fun _ h => h) (fun b _ => hold b)⟩, ⟨hos, htape, hout, by rw [hheap]; omega, fun b _ _ => hold b, fun _ h => h, fun _ h => .inl h, fun b hb => .inl (hliv b hb), hmu⟩, by omega, fun k hk => by rw [upd, if_neg (by omega)]⟩
  · intro k q hk
    by_cases hkn : k = nb
    · omega
    · rw [upd, if_neg hkn] at hk; have := h.dom k q hk; omega
  · intro k y hk
    rw [lk_cons] at hk
    by_cases hkn : nb = k
    · rw [if_pos hkn] at hk; cases hk; subst hkn; exact ⟨p, upd_self _ _ _, hn, .inl ⟨hnl, rfl, hc⟩⟩
    · rw [if_neg hkn] at hk
      exact RB.move hmu (fun _ h => h) (fun b _ => hold b) (fun q hq hn hy => hold _) (h.blk k y hk)
  · intro b hb; rw [hheap]; exact h.old b (hliv b hb)
  · intro k k' y y' q q' hk hk' hy hy' hq hq' hn hn' hb
    rw [lk_cons] at hk hk'
    by_cases h1 : nb = k <;> by_cases h2 : nb = k'
    · omega
    · subst h1; rw [upd_self] at hq; cases hq; rw [hnl] at hn; cases hn
    · subst h2; rw [upd_self] at hq'; cases hq'; rw [hnl] at hn'; cases hn'
    · rw [if_neg h1] at hk; rw [if_neg h2] at hk'
      rw [upd, if_neg (fun e => h1 e.symm)] at hq; rw [upd, if_neg (fun e => h2 e.symm)] at hq'
      exact h.inj k k' y y' q q' hk hk' hy hy' hq hq' hn hn' hb
  · intro b hb; rw [hheap]; exact h.sb b hb

/-- A block turns. -/
theorem StepB.write (h : SimB μ S w bl nb) {w' : World} {k : Nat} {p : At} {x x' : Blk} (hk : lk bl k = some x) (hx : x ≠ .dead) (hp : μ k = some p) (hnl : p.nl = false)
    (hos : w'.os = w.os) (htape : w'.tape = w.tape) (hout : OutOk w w') (hsize : w'.heap.size = w.heap.size) (hold : ∀ b, b ≠ p.b → w'.heap[b]? = w.heap[b]?)
    (hx' : RB μ S w' k x') : StepB μ S w bl nb μ S w' ((k, x') :: bl) nb := by
  have hpl : Liv μ bl p.b := ⟨k, x, p, hk, hx, hp, hnl, rfl⟩
  have hS : ∀ b, S b → w'.heap[b]? = w.heap[b]? := fun b hb => hold b (fun e => (h.old _ hpl).2 (e ▸ hb))
  have hliv : ∀ b, Liv μ ((k, x') :: bl) b → Liv μ bl b := by
    rintro b ⟨j, y, q, hj, hy, hq, hn, hb⟩
    rw [lk_cons] at hj
    by_cases hkn : k = j
    · subst hkn; rw [hp] at hq; cases hq; rw [← hb]; exact hpl
    · rw [if_neg hkn] at hj; exact ⟨j, y, q, hj, hy, hq, hn, hb⟩
  refine ⟨⟨h.dom, ?_, ?_, ?_, ?_, h.gl.move (fun _ h => h) hS⟩, ⟨hos, htape, hout, by omega, ?_, fun _ h => h, fun _ h => .inl h, fun b hb => .inl (hliv b hb), fun _ _ h => h⟩, Nat.le_refl _, fun _ _ => rfl⟩
  · intro j y hj
    rw [lk_cons] at hj
    by_cases hkn : k = j
    · rw [if_pos hkn] at hj; cases hj; subst hkn; exact hx'
    · rw [if_neg hkn] at hj
      refine RB.move (fun _ _ h => h) (fun _ h => h) hS (fun q hq hn hy => hold _ ?_) (h.blk j y hj)
      exact fun e => hkn (h.inj k j x y p q hk hj hx hy hp hq hnl hn e.symm)
  · intro b hb; rw [hsize]; exact h.old b (hliv b hb)
  · intro j j' y y' q q' hj hj' hy hy' hq hq' hn hn' hb
    rw [lk_cons] at hj hj'
    have g : ∀ {i z}, (if k = i then some x' else lk bl i) = some z → z ≠ .dead → ∃ z', lk bl i = some z' ∧ z' ≠ .dead := by
      intro i z hi hz
      by_cases hki : k = i
      · subst hki; exact ⟨x, hk, hx⟩
      · rw [if_neg hki] at hi; exact ⟨z, hi, hz⟩
    obtain ⟨z, hz, hzd⟩ := g hj hy
    obtain ⟨z', hz', hzd'⟩ := g hj' hy'
    exact h.inj j j' z z' q q' hz hz' hzd hzd' hq hq' hn hn' hb
  · intro b hb; rw [hsize]; exact h.sb b hb
  · intro b hb hL; exact hold b (fun e => hL (e ▸ hpl))

/-- The blocks of these rows. -/
def Of (μ : Nat → Option At) (bl : List (Nat × Blk)) (ks : List Nat) (b : Nat) : Prop := ∃ k ∈ ks, ∃ x p, lk bl k = some x ∧ x ≠ .dead ∧ μ k = some p ∧ p.nl = false ∧ p.b = b

/-- Rows go over into the memory that is never written. -/
theorem StepB.kill (h : SimB μ S w bl nb) (ks : List Nat) : StepB μ S w bl nb μ (fun b => S b ∨ Of μ bl ks b) w (kill ks bl) nb := by
  have hof : ∀ b, Of μ bl ks b → Liv μ bl b := fun b ⟨k, _, x, p, h1, h2, h3, h4, h5⟩ => ⟨k, x, p, h1, h2, h3, h4, h5⟩
  have hliv : ∀ b, Liv μ (Pv.kill ks bl) b → Liv μ bl b ∧ ¬ Of μ bl ks b := by
    rintro b ⟨k, x, p, hk, hx, hp, hn, hb⟩
    rcases lk_kill hk with ⟨h1, _⟩ | ⟨h1, h2⟩
    · exact absurd h1 hx
    · refine ⟨⟨k, x, p, h2, hx, hp, hn, hb⟩, ?_⟩
      rintro ⟨k', hk', x', p', g1, g2, g3, g4, g5⟩
      have := h.inj k k' x x' p p' h2 g1 hx g2 hp g3 hn g4 (hb.trans g5.symm)
      subst this; exact h1 hk'
  refine ⟨⟨h.dom, ?_, ?_, ?_, ?_, h.gl.move (fun _ h => .inl h) (fun _ _ => rfl)⟩, ⟨rfl, rfl, ⟨rfl, Nat.le_refl _⟩, Nat.le_refl _, fun _ _ _ => rfl, fun _ h => .inl h, ?_, fun b hb => .inl (hliv b hb).1, fun _ _ h => h⟩, Nat.le_refl _, fun _ _ => rfl⟩
  · intro k x hk
    rcases lk_kill hk with ⟨h1, _⟩ | ⟨h1, h2⟩
    · subst h1; trivial
    · exact RB.move (fun _ _ h => h) (fun _ h => .inl h) (fun _ _ => rfl) (fun _ _ _ _ => rfl) (h.blk k x h2)
  · intro b hb
    obtain ⟨h1, h2⟩ := hliv b hb
    refine ⟨(h.old b h1).1, ?_⟩
    rintro (h3 | h3)
    · exact (h.old b h1).2 h3
    · exact h2 h3
  · intro k k' x x' p p' hk hk' hx hx' hp hp' hn hn' hb
    rcases lk_kill hk with ⟨h1, _⟩ | ⟨h1, h2⟩
    · exact absurd h1 hx
    rcases lk_kill hk' with ⟨h3, _⟩ | ⟨h3, h4⟩
    · exact absurd h3 hx'
    exact h.inj k k' x x' p p' h2 h4 hx hx' hp hp' hn hn' hb
  · intro b hb
    rcases hb with h1 | h1
    · exact h.sb b h1
    · exact (h.old b (hof b h1)).1
  · intro b hb
    rcases hb with h1 | h1
    · exact .inl h1
    · exact .inr (.inr (hof b h1))

/-- One row is dropped: nothing is said of it any more. -/
theorem StepB.drop (h : SimB μ S w bl nb) (k : Nat) : StepB μ S w bl nb μ S w ((k, .dead) :: bl) nb := by
  have hlk : ∀ {j x}, lk ((k, Blk.dead) :: bl) j = some x → x ≠ .dead → j ≠ k ∧ lk bl j = some x := by
    intro j x hj hx
    rw [lk_cons] at hj
    by_cases hkj : k = j
    · rw [if_pos hkj] at hj; cases hj; exact absurd rfl hx
    · rw [if_neg hkj] at hj; exact ⟨fun e => hkj e.symm, hj⟩
  have hliv : ∀ b, Liv μ ((k, .dead) :: bl) b → Liv μ bl b := by
    rintro b ⟨j, y, q, hj, hy, hq, hn, hb⟩
    exact ⟨j, y, q, (hlk hj hy).2, hy, hq, hn, hb⟩
  refine ⟨⟨h.dom, ?_, fun b hb => h.old b (hliv b hb), ?_, h.sb, h.gl⟩, ⟨rfl, rfl, ⟨rfl, Nat.le_refl _⟩, Nat.le_refl _, fun _ _ _ => rfl, fun _ h => h, fun _ h => .inl h, fun b hb => .inl (hliv b hb), fun _ _ h => h⟩, Nat.le_refl _, fun _ _ => rfl⟩
  · intro j x hj
    by_cases hx : x = .dead
    · subst hx; trivial
    · exact h.blk j x (hlk hj hx).2
  · intro j j' x x' p p' hj hj' hx hx' hp hp' hn hn' hb
    exact h.inj j j' x x' p p' (hlk hj hx).2 (hlk hj' hx').2 hx hx' hp hp' hn hn' hb
end

theorem getD_set (a : Array Value) (t s : Nat) (v : Value) (ht : t < a.size) : (a.setIfInBounds t v).getD s undef = if t = s then v else a.getD s undef := by
  simp only [Array.getD_eq_getD_getElem?, Array.getElem?_setIfInBounds]
  by_cases h : t = s
  · subst h; simp [ht]
  · simp [h]

theorem SimF.put {μ : Nat → Option At} {S : Nat → Prop} {w : World} {fr : List (Nat × AV)} {a : Act} (h : SimF μ S w fr a) {t : Nat} {v : AV} {u : Value} (ht : t < a.tmps.size) (hv : RV μ S w v u) :
    SimF μ S w ((t, v) :: fr) (a.put (some t) u) := by
  refine ⟨?_⟩
  intro s x hs
  rw [lk_cons] at hs
  show RV μ S w x ((a.tmps.setIfInBounds t u).getD s undef)
  rw [getD_set _ _ _ _ ht]
  by_cases hts : t = s
  · rw [if_pos hts] at hs ⊢; cases hs; exact hv
  · rw [if_neg hts] at hs ⊢; exact h.slot s x hs

theorem RV.of {μ : Nat → Option At} {S : Nat → Prop} {w : World} {a : AV} {v : Value} (h : cond a.agg (∃ cs : List Value, v = .agg cs.toArray ∧ RC μ S w a cs) (RC μ S w a [v])) : RV μ S w a v := by
  cases a with
  | junk => trivial
  | cons x y => exact h.elim
  | _ => exact h

theorem RV.to {μ : Nat → Option At} {S : Nat → Prop} {w : World} {a : AV} {v : Value} (h : RV μ S w a v) (hj : a ≠ .junk) (hc : ∀ x y, a ≠ .cons x y) :
    cond a.agg (∃ cs : List Value, v = .agg cs.toArray ∧ RC μ S w a cs) (RC μ S w a [v]) := by
  cases a with
  | junk => exact absurd rfl hj
  | cons x y => exact absurd rfl (hc x y)
  | _ => exact h

end Go.Pv

/- Values: their parts, their data, operands. -/
set_option linter.unusedVariables false
namespace Go.Pv

section
variable {μ : Nat → Option At} {S : Nat → Prop} {w : World}

theorem RC.length : ∀ {a : AV} {cs : List Value}, RX μ S w false a cs → cs.length = a.size := by
  intro a
  induction a with
  | dat t x => intro cs h; exact Rep.length h
  | own k => intro cs h; obtain ⟨p, _, e⟩ := h; rw [e]; rfl
  | nil => intro cs h; rw [RX] at h; rw [h]; rfl
  | ptr k off => intro cs h; obtain ⟨p, _, e⟩ := h; rw [e]; rfl
  | rptr k e t get put => intro cs h; obtain ⟨p, δ, _, e, _⟩ := h; rw [e]; rfl
  | aptr k off n e t get put => intro cs h; obtain ⟨p, δ, _, e, _⟩ := h; rw [e]; rfl
  | vptr k sz i off => intro cs h; obtain ⟨p, _, e⟩ := h; rw [e]; rfl
  | iptr t x => intro cs h; obtain ⟨b, o, ds, e, _⟩ := h; rw [e]; rfl
  | fn f cap ih => intro cs h; obtain ⟨vs, e, _⟩ := h; rw [e]; rfl
  | nilfn => intro cs h; rw [RX] at h; rw [h]; rfl
  | mp k => intro cs h; obtain ⟨p, _, e⟩ := h; rw [e]; rfl
  | pr a b iha ihb => intro cs h; obtain ⟨c, r, e, h1, h2⟩ := h; rw [e, List.length_append, iha h1, ihb h2]; rfl
  | cons a b iha ihb => intro cs h; exact h.elim
  | un => intro cs h; rw [RX] at h; rw [h]; rfl
  | junk => intro cs h; exact h.elim

theorem RepRow.all {α : Type} {R : α → List Value → Prop} {p : Value → Prop} (h : ∀ x c, R x c → ∀ v ∈ c, p v) : ∀ {xs : List α} {cs : List Value}, RepRow R xs cs → ∀ v ∈ cs, p v
  | [], cs, hr, v, hv => by rw [RepRow] at hr; subst hr; simp at hv
  | x :: xs, cs, ⟨c, r, e, h1, h2⟩, v, hv => by
    rw [e, List.mem_append] at hv
    rcases hv with hv | hv
    · exact h _ _ h1 v hv
    · exact RepRow.all h h2 v hv

theorem Rep.one : ∀ {t : Ty} {x : t.den} {cs : List Value}, Rep S w t x cs → ∀ v ∈ cs, v.oneCell' = true
  | .int _, _, _, h => by rw [Rep] at h; subst h; simp [Value.oneCell']
  | .bool, _, _, h => by rw [Rep] at h; subst h; simp [Value.oneCell']
  | .str, _, _, h => by rw [Rep] at h; subst h; simp [Value.oneCell']
  | .sl e, xs, cs, ⟨A, cap, h, _⟩ => by subst h; simp [Value.oneCell']
  | .arr n e, xs, cs, ⟨_, h⟩ => RepRow.all (fun x c h => Rep.one h) h
  | .pr a b, x, cs, ⟨c, r, e, h1, h2⟩ => by
    intro v hv
    rw [e, List.mem_append] at hv
    rcases hv with hv | hv
    · exact Rep.one h1 v hv
    · exact Rep.one h2 v hv
  | .un, _, _, h => by rw [Rep] at h; subst h; simp
  | .err, x, cs, h => by
    have h : ((x : Int) = 0 ∧ cs = [.nilIface]) ∨ ((0 : Int) < x ∧ cs = [.iface errTid (.agg #[.int .i64 x])]) ∨ ((x : Int) < 0 ∧ ∃ t v, cs = [.iface t v]) := h
    rcases h with ⟨_, h⟩ | ⟨_, h⟩ | ⟨_, _, _, h⟩ <;> (subst h; simp [Value.oneCell'])
  | .np, _, cs, h => by have h : cs = [.pointer none] := h; subst h; simp [Value.oneCell']

theorem RC.one : ∀ {a : AV} {cs : List Value}, RX μ S w false a cs → ∀ v ∈ cs, v.oneCell' = true := by
  intro a
  induction a with
  | dat t x => intro cs h; exact Rep.one h
  | own k => intro cs h; obtain ⟨p, _, e⟩ := h; subst e; simp [Value.oneCell', rowVal]
  | nil => intro cs h; rw [RX] at h; subst h; simp [Value.oneCell']
  | ptr k off => intro cs h; obtain ⟨p, _, e⟩ := h; subst e; simp [Value.oneCell']
  | rptr k e t get put => intro cs h; obtain ⟨p, δ, _, e, _⟩ := h; subst e; simp [Value.oneCell']
  | aptr k off n e t get put => intro cs h; obtain ⟨p, δ, _, e, _⟩ := h; subst e; simp [Value.oneCell']
  | vptr k sz i off => intro cs h; obtain ⟨p, _, e⟩ := h; subst e; simp [Value.oneCell']
  | iptr t x => intro cs h; obtain ⟨b, o, ds, e, _⟩ := h; subst e; simp [Value.oneCell']
  | fn f cap ih => intro cs h; obtain ⟨vs, e, _⟩ := h; subst e; simp [Value.oneCell']
  | nilfn => intro cs h; rw [RX] at h; subst h; simp [Value.oneCell']
  | mp k => intro cs h; obtain ⟨p, _, e⟩ := h; subst e; simp [Value.oneCell']
  | pr a b iha ihb =>
    intro cs h v hv
    obtain ⟨c, r, e, h1, h2⟩ := h
    rw [e, List.mem_append] at hv
    rcases hv with hv | hv
    · exact iha h1 v hv
    · exact ihb h2 v hv
  | cons a b iha ihb => intro cs h; exact h.elim
  | un => intro cs h; rw [RX] at h; subst h; simp
  | junk => intro cs h; exact h.elim

theorem RC.mk {a b : AV} {c r : List Value} (h1 : RX μ S w false a c) (h2 : RX μ S w false b r) : RX μ S w false (AV.mk a b) (c ++ r) := by
  unfold AV.mk
  split
  · exact ⟨c, r, rfl, h1, h2⟩
  · rw [RX] at h2; subst h2; exact ⟨c, [], rfl, h1, rfl⟩
  · exact ⟨c, r, rfl, h1, h2⟩

theorem AV.mk_agg (a b : AV) : (AV.mk a b).agg = true := by
  unfold AV.mk
  split <;> rfl

theorem RC.two {v a b : AV} {cs : List Value} (h : v.two = some (a, b)) (hv : RX μ S w false v cs) : ∃ c r, cs = c ++ r ∧ RX μ S w false a c ∧ RX μ S w false b r := by
  unfold AV.two at h
  split at h
  · cases h; obtain ⟨c, r, e, h1, h2⟩ := hv; exact ⟨c, r, e, h1, h2⟩
  · cases h; obtain ⟨c, r, e, h1, h2⟩ := hv; exact ⟨c, r, e, h1, h2⟩
  · cases h

theorem and3_true {a b c : Bool} (h : and3 a b c = true) : a = true ∧ b = true ∧ c = true := by
  cases a <;> cases b <;> cases c <;> simp [and3] at h ⊢
theorem beqB_true {a b : Bool} (h : beqB a b = true) : a = b := by
  cases a <;> cases b <;> simp [beqB] at h ⊢
theorem blt_true {a b : Nat} (h : Nat.blt a b = true) : a < b := by simpa [Nat.blt_eq] using h
theorem blt_false {a b : Nat} (h : Nat.blt a b = false) : b ≤ a := by
  rcases Nat.lt_or_ge a b with h1 | h1
  · have : Nat.blt a b = true := by rw [Nat.blt_eq]; exact h1
    rw [this] at h; cases h
  · exact h1
theorem beq_true {a b : Nat} (h : Nat.beq a b = true) : a = b := Nat.eq_of_beq_eq_true h

theorem AV.sub_ok {n : Nat} {g : Bool} : ∀ {f : Nat} {off : Nat} {v u : AV} {cs : List Value}, AV.sub off n g f v = some u → RX μ S w false v cs →
    RX μ S w false u ((cs.drop off).take n) ∧ u.agg = g ∧ u.size = n ∧ off + n ≤ cs.length
  | 0, _, _, _, _, h, _ => by rw [AV.sub] at h; cases h
  | f + 1, off, v, u, cs, h, hv => by
    rw [AV.sub] at h
    have hl := RC.length hv
    cases hc : and3 (Nat.beq off 0) (Nat.beq n v.size) (beqB g v.agg) with
    | true =>
      rw [hc] at h; simp only [cond_true, Option.some.injEq] at h; subst h
      obtain ⟨h1, h2, h3⟩ := and3_true hc
      have h1 := beq_true h1; have h2 := beq_true h2; have h3 := beqB_true h3
      subst h1
      refine ⟨?_, h3.symm, h2.symm, by omega⟩
      rw [List.drop_zero, List.take_of_length_le (by omega)]; exact hv
    | false =>
      rw [hc] at h; simp only [cond_false] at h
      obtain ⟨⟨a, b⟩, hp, h⟩ := ob_some h
      obtain ⟨c, r, e, ha, hb⟩ := RC.two hp hv
      have hla := RC.length ha
      have hlb := RC.length hb
      cases hb' : Nat.blt off a.size with
      | true =>
        simp only [hb', cond_true] at h
        obtain ⟨g1, g2, g3, g4⟩ := AV.sub_ok h ha
        refine ⟨?_, g2, g3, by rw [e, List.length_append]; omega⟩
        rw [e, List.drop_append_of_le_length (by omega), List.take_append_of_le_length (by simp; omega)]
        exact g1
      | false =>
        simp only [hb', cond_false] at h
        obtain ⟨g1, g2, g3, g4⟩ := AV.sub_ok h hb
        have hge := blt_false hb'
        have e0 : Nat.sub off a.size = off - a.size := rfl
        rw [e0] at g1 g4
        refine ⟨?_, g2, g3, by rw [e, List.length_append]; omega⟩
        rw [e, List.drop_append, List.drop_of_length_le (by omega), hla, List.nil_append]
        exact g1

theorem AV.upd_ok {n : Nat} {g : Bool} {x : AV} {c' : List Value} (hx : RX μ S w false x c') (hn : c'.length = n) (hg : x.agg = g) : ∀ {f : Nat} {off : Nat} {v u : AV} {cs : List Value}, AV.upd off n g x f v = some u → RX μ S w false v cs →
    RX μ S w false u (cs.take off ++ c' ++ cs.drop (off + n)) ∧ u.agg = v.agg ∧ off + n ≤ cs.length
  | 0, _, _, _, _, h, _ => by rw [AV.upd] at h; cases h
  | f + 1, off, v, u, cs, h, hv => by
    rw [AV.upd] at h
    have hl := RC.length hv
    cases hc : and3 (Nat.beq off 0) (Nat.beq n v.size) (beqB g v.agg) with
    | true =>
      rw [hc] at h; simp only [cond_true, Option.some.injEq] at h; subst h
      obtain ⟨h1, h2, h3⟩ := and3_true hc
      have h1 := beq_true h1; have h2 := beq_true h2; have h3 := beqB_true h3
      subst h1
      refine ⟨?_, hg.trans h3, by omega⟩
      rw [List.take_zero, List.drop_of_length_le (by omega)]; simpa using hx
    | false =>
      rw [hc] at h; simp only [cond_false] at h
      obtain ⟨⟨a, b⟩, hp, h⟩ := ob_some h
      have hagg : v.agg = true := by
        unfold AV.two at hp
        split at hp
        · rfl
        · rfl
        · cases hp
      obtain ⟨c, r, e, ha, hb⟩ := RC.two hp hv
      have hla := RC.length ha
      have hlb := RC.length hb
      cases hb' : Nat.blt off a.size with
      | true =>
        simp only [hb', cond_true] at h
        obtain ⟨a', h1, h2⟩ := ob_some h
        simp only [Option.some.injEq] at h2; subst h2
        obtain ⟨g1, g2, g4⟩ := AV.upd_ok hx hn hg h1 ha
        refine ⟨?_, (AV.mk_agg _ _).trans hagg.symm, by rw [e, List.length_append]; omega⟩
        have := RC.mk g1 hb
        rw [e, List.take_append_of_le_length (by omega), List.drop_append_of_le_length (by omega)]
        simpa [List.append_assoc] using this
      | false =>
        simp only [hb', cond_false] at h
        obtain ⟨b', h1, h2⟩ := ob_some h
        simp only [Option.some.injEq] at h2; subst h2
        obtain ⟨g1, g2, g4⟩ := AV.upd_ok hx hn hg h1 hb
        have hge := blt_false hb'
        have e0 : Nat.sub off a.size = off - a.size := rfl
        rw [e0] at g1 g4
        refine ⟨?_, (AV.mk_agg _ _).trans hagg.symm, by rw [e, List.length_append]; omega⟩
        have := RC.mk ha g1
        rw [e, List.take_append, List.take_of_length_le (by omega), List.drop_append, List.drop_of_length_le (by omega), hla, List.nil_append]
        have e1 : off + n - a.size = off - a.size + n := by omega
        rw [e1]
        simpa [List.append_assoc] using this

theorem Of.imp {bl : List (Nat × Blk)} {ks ks' : List Nat} (h : ∀ k ∈ ks, k ∈ ks') {b : Nat} (hb : Of μ bl ks b) : Of μ bl ks' b := by
  obtain ⟨k, hk, r⟩ := hb; exact ⟨k, h k hk, r⟩

theorem CellsAt.of_heap {b : Nat} {cs : List Value} {ty : TypeId} {fr : Nat × Nat} (h : w.heap[b]? = some (.cells cs.toArray ty fr)) (o n : Nat) : CellsAt w b o ((cs.drop o).take n) := by
  intro j d hd
  have : (cs.drop o)[j]? = some d := by
    rw [List.getElem?_take] at hd
    split at hd
    · exact hd
    · cases hd
  rw [List.getElem?_drop] at this
  simp [World.cell?, h, this]

/-- A row as data of a slice. -/
theorem RB.slice {bl : List (Nat × Blk)} {nb k : Nat} {e : Ty} {xs : List e.den} {cs : List Value} (hB : SimB μ S w bl nb) (hk : lk bl k = some (.row e xs)) (hc : RX μ S w false (.own k) cs) {S' : Nat → Prop}
    (hS : ∀ b, S b → S' b) (hk' : ∀ b, Of μ bl [k] b → S' b) : Rep S' w (.sl e) xs cs := by
  obtain ⟨p, hp, e1⟩ := hc
  obtain ⟨q, hq, hn, hr⟩ := hB.blk k _ hk
  rw [hp] at hq; cases hq
  rcases hr with ⟨hnl, rfl, hcap⟩ | ⟨hnl, ds, ty, h1, h2, h3, h4, h5⟩
  · refine ⟨none, 0, ?_, Nat.le_refl _, fun h => by simp at h⟩
    rw [e1, rowVal, hnl, hn, hcap]; rfl
  · refine ⟨some ⟨p.b, p.o, none⟩, p.cap, ?_, h2, fun _ => ⟨p.b, p.o, _, rfl, hk' _ ⟨k, by simp, _, p, hk, by simp, hp, hnl, rfl⟩, CellsAt.of_heap h1 _ _, h5.imp fun x c h => Rep.move hS (fun _ _ => rfl) h⟩⟩
    rw [e1, rowVal, hnl, hn]; rfl

theorem AV.take_ok {bl : List (Nat × Blk)} {nb : Nat} (hB : SimB μ S w bl nb) : ∀ {v : AV} {t : Ty} {x : t.den} {ks : List Nat} {cs : List Value}, AV.take bl t v = some (x, ks) → RX μ S w false v cs →
    ∀ {S' : Nat → Prop}, (∀ b, S b → S' b) → (∀ b, Of μ bl ks b → S' b) → Rep S' w t x cs ∧ v.agg = t.agg := by
  intro v
  induction v with
  | dat s y =>
    intro t x ks cs h hv S' hS hks
    rw [AV.take] at h
    split at h
    · rename_i hs _
      obtain ⟨rfl⟩ := hs
      cases h
      exact ⟨Rep.move hS (fun _ _ => rfl) hv, rfl⟩
    · cases h
  | own k =>
    intro t x ks cs h hv S' hS hks
    cases t with
    | sl e =>
      rw [AV.take] at h
      split at h
      · rename_i e' xs hk
        split at h
        · rename_i hs _
          obtain ⟨hs⟩ := hs
          cases hs
          cases h
          exact ⟨RB.slice hB hk hv hS hks, rfl⟩
        · cases h
      · cases h
    | _ => simp [AV.take] at h
  | nil =>
    intro t x ks cs h hv S' hS hks
    cases t with
    | sl e =>
      rw [AV.take] at h; cases h
      rw [RX] at hv
      exact ⟨⟨none, 0, by rw [hv]; rfl, Nat.le_refl _, fun h => by simp at h⟩, rfl⟩
    | _ => simp [AV.take] at h
  | pr a b iha ihb =>
    intro t x ks cs h hv S' hS hks
    cases t with
    | pr ta tb =>
      rw [AV.take] at h
      obtain ⟨⟨x1, k1⟩, h1, h⟩ := ob_some h
      obtain ⟨⟨x2, k2⟩, h2, h⟩ := ob_some h
      simp only [Option.some.injEq, Prod.mk.injEq] at h
      obtain ⟨rfl, rfl⟩ := h
      obtain ⟨c, r, e, hc, hr⟩ := hv
      rw [sapp_eq] at hks
      have g1 := (iha h1 hc hS (fun b hb => hks b (Of.imp (fun k hk => by simp [hk]) hb))).1
      have g2 := (ihb h2 hr hS (fun b hb => hks b (Of.imp (fun k hk => by simp [hk]) hb))).1
      exact ⟨⟨c, r, e, g1, g2⟩, rfl⟩
    | _ => simp [AV.take] at h
  | un =>
    intro t x ks cs h hv S' hS hks
    cases t with
    | un => exact ⟨hv, rfl⟩
    | _ => simp [AV.take] at h
  | _ => intro t x ks cs h; cases t <;> simp [AV.take] at h

theorem known_some {o : Option AV} {v : AV} (h : known o = some v) : o = some v ∧ v ≠ .junk := by
  unfold known at h
  split at h
  · cases h
  · rename_i hn
    exact ⟨h, fun e => hn (by rw [h, e])⟩

theorem several_some {o : Option AV} {v : AV} (h : several o = some v) : o = some v ∧ ∀ z, v ≠ .cons .junk z := by
  unfold several at h
  split at h
  · cases h
  · cases h
  · rename_i h1 h2
    exact ⟨h, fun z e => h2 z (by rw [h, e])⟩

theorem one_some {o : Option AV} {v : AV} (h : one o = some v) : o = some v ∧ v ≠ .junk ∧ ∀ x y, v ≠ .cons x y := by
  unfold one at h
  split at h
  · cases h
  · cases h
  · rename_i h1 h2
    exact ⟨h, fun e => h1 (by rw [h, e]), fun x y e => h2 x y (by rw [h, e])⟩

theorem constAV_ok {v : Value} {a : AV} (h : constAV v = some a) : RV μ S w a v ∧ a ≠ .junk ∧ ∀ x y, a ≠ .cons x y := by
  unfold constAV at h
  split at h <;> cases h
  · exact ⟨RV.of (a := .dat .bool _) rfl, by simp, by simp⟩
  · exact ⟨RV.of (a := .dat (.int _) _) rfl, by simp, by simp⟩
  · exact ⟨RV.of (a := .dat .str _) rfl, by simp, by simp⟩
  · exact ⟨RV.of (a := .nil) rfl, by simp, by simp⟩
  · exact ⟨RV.of (a := .nilfn) rfl, by simp, by simp⟩
  · exact ⟨RV.of (a := .dat .err 0) (.inl ⟨rfl, rfl⟩), by simp, by simp⟩
  · exact ⟨RV.of (a := .dat .np ()) rfl, by simp, by simp⟩

theorem St.opd_ok {st : St} {a : Act} {x : Operand} {v : AV} (hf : SimF μ S w st.fr a) (h : st.opd x = some v) : RV μ S w v (a.eval x) ∧ v ≠ .junk ∧ ∀ x y, v ≠ .cons x y := by
  cases x with
  | tmp t =>
    obtain ⟨h1, h2⟩ := one_some h
    exact ⟨hf.slot t v h1, h2⟩
  | const c => exact constAV_ok (μ := μ) (S := S) (w := w) h
  | func f =>
    rw [St.opd] at h; cases h
    exact ⟨RV.of (a := .fn f .un) ⟨[], rfl, rfl⟩, by simp⟩
  | global g => rw [St.opd] at h; cases h

/-- A value's cells. -/
theorem St.any_ok {st : St} {a : Act} {x : Operand} {v : AV} (hf : SimF μ S w st.fr a) (h : st.any x = some v) : RV μ S w v (a.eval x) := by
  cases x with
  | tmp t =>
    have h : known (lk st.fr t) = some v := h
    exact hf.slot t v (known_some h).1
  | const c =>
    have hc : (c = .map none ∧ v = .junk) ∨ st.opd (.const c) = some v := by
      unfold St.any at h
      split at h
      · rename_i e; cases e
      · rename_i e; cases e; cases h; exact .inl ⟨rfl, rfl⟩
      · exact .inr h
    rcases hc with ⟨rfl, rfl⟩ | h
    · trivial
    · exact (St.opd_ok hf (x := .const c) h).1
  | func f => exact (St.opd_ok hf (x := .func f) h).1
  | global g => exact (St.opd_ok hf (x := .global g) h).1

theorem RV.cells {a : AV} {v : Value} (h : RV μ S w a v) (hj : a ≠ .junk) (hc : ∀ x y, a ≠ .cons x y) : RX μ S w false a v.cells.toList ∧ (a.agg = true → ∃ cs : List Value, v = .agg cs.toArray) ∧ (a.agg = false → v.cells = #[v]) := by
  have h := h.to hj hc
  cases hg : a.agg with
  | true =>
    rw [hg] at h
    obtain ⟨cs, e, h1⟩ := h
    subst e
    exact ⟨by simpa [Value.cells] using h1, fun _ => ⟨cs, rfl⟩, by simp⟩
  | false =>
    rw [hg] at h
    have h1 := RC.one h v (by simp)
    have : v.cells = #[v] := by cases v <;> simp [Value.cells, Value.oneCell'] at h1 ⊢
    exact ⟨by rw [this]; exact h, by simp, fun _ => this⟩

end
end Go.Pv
