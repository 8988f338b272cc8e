/- A pure reading of the model's code, and that the run does what it says: part d. -/
import Derived.Test.YtdgibokmaannjaaPc
/- Shapes against memory: what a value of a shape owns; values made of shapes and read by them. -/
set_option linter.unusedVariables false
set_option linter.unusedSimpArgs false
namespace Go.Pv

/-- A row's place and its data. -/
def RowAt (S : Nat → Prop) (w : World) (p : At) (e : Ty) (xs : List e.den) : Prop :=
  p.n = xs.length ∧ ((p.nl = true ∧ xs = [] ∧ p.cap = 0) ∨
    (p.nl = false ∧ ∃ (cs : List Value) (ty : TypeId), w.heap[p.b]? = some (.cells cs.toArray ty (0, 0)) ∧ xs.length ≤ p.cap ∧ p.cap ≤ maxLen ∧ p.o + p.cap * e.size ≤ cs.length ∧
      RepRow (Rep S w e) xs ((cs.drop p.o).take (xs.length * e.size))))

def MapAt (S : Nat → Prop) (w : World) (b : Nat) (kt vt : Ty) (es : List (kt.den × vt.den)) : Prop :=
  ∃ (ents : Array MapEntry) (clock : Nat), w.heap[b]? = some (.map ents clock) ∧ REnts S w kt vt es ents.toList ∧ MapKept.Stamped ents clock

/-- Cells (or a list of values) of a shape with these data; the blocks that they own. -/
def ShX (S : Nat → Prop) (w : World) : Bool → (s : Sh) → s.ty.den → List Value → List Nat → Prop
  | false, .dat t, x, cs, bs => Rep S w t x cs ∧ bs = []
  | false, .own e, xs, cs, bs => ∃ p, cs = [rowVal p] ∧ RowAt S w p e xs ∧ bs = cond p.nl [] [p.b]
  | false, .box s, x, cs, bs => ∃ b cs' ty bs', cs = [.pointer (some ⟨b, 0, none⟩)] ∧ w.heap[b]? = some (.cells (List.toArray cs') ty (0, 0)) ∧ ShX S w false s x cs' bs' ∧ bs = b :: bs'
  | false, .map kt vt, es, cs, bs => ∃ b, cs = [.map (some b)] ∧ MapAt S w b kt vt es ∧ bs = [b]
  | false, .fn f c, x, cs, bs => ∃ vs : List Value, cs = [.func (.func f) #[] vs.toArray] ∧ ShX S w true c x vs bs ∧ c.list = true
  | false, .nilfn, _, cs, bs => cs = [.nilFunc] ∧ bs = []
  | false, .imm t, x, cs, bs => (∃ b o ds, cs = [.pointer (some ⟨b, o, none⟩)] ∧ S b ∧ CellsAt w b o ds ∧ Rep S w t x ds) ∧ bs = []
  | false, .pr a b, x, cs, bs => ∃ c r b1 b2, cs = c ++ r ∧ bs = b1 ++ b2 ∧ ShX S w false a x.1 c b1 ∧ ShX S w false b x.2 r b2
  | false, .un, _, cs, bs => cs = [] ∧ bs = []
  | true, .cons a b, x, vs, bs => ∃ v r b1 b2, vs = v :: r ∧ bs = b1 ++ b2 ∧ (cond a.agg (∃ cs : List Value, v = .agg cs.toArray ∧ ShX S w false a x.1 cs b1) (ShX S w false a x.1 [v] b1)) ∧ ShX S w true b x.2 r b2
  | true, .un, _, vs, bs => vs = [] ∧ bs = []
  | _, _, _, _, _ => False

/-- One value of a shape. -/
def ShV (S : Nat → Prop) (w : World) (s : Sh) (x : s.ty.den) (v : Value) (bs : List Nat) : Prop :=
  cond s.agg (∃ cs : List Value, v = .agg cs.toArray ∧ ShX S w false s x cs bs) (ShX S w false s x [v] bs)

/-- A function's result. -/
def ShR (S : Nat → Prop) (w : World) : (s : Sh) → s.ty.den → Value → List Nat → Prop
  | .nix, _, _, bs => bs = []
  | .cons a b, x, v, bs => ∃ vs : List Value, v = .tuple vs.toArray ∧ ShX S w true (.cons a b) x vs bs
  | s, x, v, bs => ShV S w s x v bs

section
variable {S S' : Nat → Prop} {w w' : World}

theorem RowAt.move {p : At} {e : Ty} {xs : List e.den} (hS : ∀ b, S b → S' b) (hw : ∀ b, S b → w'.heap[b]? = w.heap[b]?) (hp : p.nl = false → w'.heap[p.b]? = w.heap[p.b]?) (h : RowAt S w p e xs) : RowAt S' w' p e xs := by
  obtain ⟨hn, h⟩ := h
  refine ⟨hn, ?_⟩
  rcases h with h | ⟨hnl, cs, ty, h1, h2, h3, h4, h5⟩
  · exact .inl h
  · exact .inr ⟨hnl, cs, ty, (hp hnl).trans h1, h2, h3, h4, h5.imp fun x c h => Rep.move hS hw h⟩

theorem MapAt.move {b : Nat} {kt vt : Ty} {es : List (kt.den × vt.den)} (hS : ∀ b, S b → S' b) (hw : ∀ b, S b → w'.heap[b]? = w.heap[b]?) (hb : w'.heap[b]? = w.heap[b]?) (h : MapAt S w b kt vt es) : MapAt S' w' b kt vt es := by
  obtain ⟨ents, clock, h1, h2⟩ := h
  exact ⟨ents, clock, hb.trans h1, h2.1.move hS hw, h2.2⟩

theorem ShX.move (hS : ∀ b, S b → S' b) (hw : ∀ b, S b → w'.heap[b]? = w.heap[b]?) : ∀ {s : Sh} {g : Bool} {x : s.ty.den} {cs : List Value} {bs : List Nat}, ShX S w g s x cs bs → (∀ b ∈ bs, w'.heap[b]? = w.heap[b]?) → ShX S' w' g s x cs bs := by
  intro s
  induction s with
  | dat t => intro g x cs bs h hb; cases g with | false => exact ⟨Rep.move hS hw h.1, h.2⟩ | true => exact h.elim
  | own e =>
    intro g x cs bs h hb
    cases g with
    | true => exact h.elim
    | false =>
      obtain ⟨p, e1, h1, e2⟩ := h
      exact ⟨p, e1, h1.move hS hw (fun hnl => hb _ (by rw [e2, hnl]; simp)), e2⟩
  | box s ih =>
    intro g x cs bs h hb
    cases g with
    | true => exact h.elim
    | false =>
      obtain ⟨b, cs', ty, bs', e1, h1, h2, e2⟩ := h
      exact ⟨b, cs', ty, bs', e1, (hb b (by rw [e2]; simp)).trans h1, ih h2 (fun b hbb => hb b (by rw [e2]; simp [hbb])), e2⟩
  | map kt vt =>
    intro g x cs bs h hb
    cases g with
    | true => exact h.elim
    | false =>
      obtain ⟨b, e1, h1, e2⟩ := h
      exact ⟨b, e1, h1.move hS hw (hb b (by rw [e2]; simp)), e2⟩
  | fn f c ih =>
    intro g x cs bs h hb
    cases g with
    | true => exact h.elim
    | false => obtain ⟨vs, e1, h1, h2⟩ := h; exact ⟨vs, e1, ih h1 hb, h2⟩
  | nilfn => intro g x cs bs h hb; cases g with | false => exact h | true => exact h.elim
  | imm t =>
    intro g x cs bs h hb
    cases g with
    | true => exact h.elim
    | false =>
      obtain ⟨⟨b, o, ds, e1, h1, h2, h3⟩, e2⟩ := h
      exact ⟨⟨b, o, ds, e1, hS b h1, h2.move (hw b h1), Rep.move hS hw h3⟩, e2⟩
  | pr a b iha ihb =>
    intro g x cs bs h hb
    cases g with
    | true => exact h.elim
    | false =>
      obtain ⟨c, r, b1, b2, e1, e2, h1, h2⟩ := h
      exact ⟨c, r, b1, b2, e1, e2, iha h1 (fun b hbb => hb b (by rw [e2]; simp [hbb])), ihb h2 (fun b hbb => hb b (by rw [e2]; simp [hbb]))⟩
  | cons a b iha ihb =>
    intro g x cs bs h hb
    cases g with
    | false => exact h.elim
    | true =>
      obtain ⟨v, r, b1, b2, e1, e2, h1, h2⟩ := h
      refine ⟨v, r, b1, b2, e1, e2, ?_, ihb h2 (fun b hbb => hb b (by rw [e2]; simp [hbb]))⟩
      cases hg : a.agg with
      | true => rw [hg] at h1; obtain ⟨cs, e3, h3⟩ := h1; exact ⟨cs, e3, iha h3 (fun b hbb => hb b (by rw [e2]; simp [hbb]))⟩
      | false => rw [hg] at h1; exact iha h1 (fun b hbb => hb b (by rw [e2]; simp [hbb]))
  | un => intro g x cs bs h hb; cases g with | false => exact h | true => exact h
  | nix => intro g x cs bs h hb; cases g with | false => exact h.elim | true => exact h.elim

theorem ShV.move (hS : ∀ b, S b → S' b) (hw : ∀ b, S b → w'.heap[b]? = w.heap[b]?) {s : Sh} {x : s.ty.den} {v : Value} {bs : List Nat} (h : ShV S w s x v bs) (hb : ∀ b ∈ bs, w'.heap[b]? = w.heap[b]?) : ShV S' w' s x v bs := by
  unfold ShV at h ⊢
  cases hg : s.agg with
  | true => rw [hg] at h; obtain ⟨cs, e, h1⟩ := h; exact ⟨cs, e, h1.move hS hw hb⟩
  | false => rw [hg] at h; exact h.move hS hw hb

theorem ShR.move (hS : ∀ b, S b → S' b) (hw : ∀ b, S b → w'.heap[b]? = w.heap[b]?) {s : Sh} {x : s.ty.den} {v : Value} {bs : List Nat} (h : ShR S w s x v bs) (hb : ∀ b ∈ bs, w'.heap[b]? = w.heap[b]?) : ShR S' w' s x v bs := by
  cases s with
  | nix => exact h
  | cons a b => obtain ⟨vs, e, h1⟩ := h; exact ⟨vs, e, h1.move hS hw hb⟩
  | dat t => exact ShV.move hS hw (s := .dat t) h hb
  | own e => exact ShV.move hS hw (s := .own e) h hb
  | box s => exact ShV.move hS hw (s := .box s) h hb
  | map k v => exact ShV.move hS hw (s := .map k v) h hb
  | fn f c => exact ShV.move hS hw (s := .fn f c) h hb
  | nilfn => exact ShV.move hS hw (s := .nilfn) h hb
  | imm t => exact ShV.move hS hw (s := .imm t) h hb
  | pr a b => exact ShV.move hS hw (s := .pr a b) h hb
  | un => exact ShV.move hS hw (s := .un) h hb

/-- Flat data lead nowhere. -/
theorem Rep.flat : ∀ {t : Ty} {x : t.den} {cs : List Value}, t.flat = true → Rep S w t x cs → Rep S' w' t x cs
  | .int _, _, _, _, h => h
  | .bool, _, _, _, h => h
  | .str, _, _, _, h => h
  | .sl _, _, _, hf, _ => by cases hf
  | .arr n e, xs, cs, hf, ⟨h1, h2⟩ => ⟨h1, h2.imp fun x c h => Rep.flat (t := e) hf h⟩
  | .pr a b, x, cs, hf, ⟨c, r, e, h1, h2⟩ => by
    have hf : (a.flat && b.flat) = true := hf
    rw [Bool.and_eq_true] at hf
    exact ⟨c, r, e, Rep.flat hf.1 h1, Rep.flat hf.2 h2⟩
  | .un, _, _, _, h => h
  | .err, _, _, _, h => h
  | .np, _, _, _, h => h

theorem ValOf.flat {t : Ty} {x : t.den} {v : Value} (hf : t.flat = true) (h : ValOf S w t x v) : ValOf S' w' t x v := by
  unfold ValOf at h ⊢
  cases hg : t.agg with
  | true => rw [hg] at h; obtain ⟨cs, e, h1⟩ := h; exact ⟨cs, e, Rep.flat hf h1⟩
  | false => rw [hg] at h; exact Rep.flat hf h

theorem REnts.flat {kt vt : Ty} (hk : kt.flat = true) (hv : vt.flat = true) : ∀ {es : List (kt.den × vt.den)} {l : List MapEntry}, REnts S w kt vt es l → REnts S' w' kt vt es l
  | [], _, h => h
  | _ :: _, _, ⟨e, es', e1, h1, h2, h3⟩ => ⟨e, es', e1, ValOf.flat hk h1, ValOf.flat hv h2, REnts.flat hk hv h3⟩

theorem ShX.flat : ∀ {s : Sh} {g : Bool} {x : s.ty.den} {cs : List Value} {bs : List Nat}, s.flat = true → ShX S w g s x cs bs → ShX S' w g s x cs bs := by
  intro s
  induction s with
  | dat t => intro g x cs bs hf h; cases g with | false => exact ⟨Rep.flat hf h.1, h.2⟩ | true => exact h.elim
  | own e =>
    intro g x cs bs hf h
    cases g with
    | true => exact h.elim
    | false =>
      obtain ⟨p, e1, ⟨hn, h1⟩, e2⟩ := h
      refine ⟨p, e1, ⟨hn, ?_⟩, e2⟩
      rcases h1 with h | ⟨hnl, cs, ty, h1, h2, h3, h4, h5⟩
      · exact .inl h
      · exact .inr ⟨hnl, cs, ty, h1, h2, h3, h4, h5.imp fun x c h => Rep.flat hf h⟩
  | box s ih =>
    intro g x cs bs hf h
    cases g with
    | true => exact h.elim
    | false =>
      obtain ⟨b, cs', ty, bs', e1, h1, h2, e2⟩ := h
      exact ⟨b, cs', ty, bs', e1, h1, ih hf h2, e2⟩
  | map kt vt =>
    intro g x cs bs hf h
    have hf : (kt.flat && vt.flat) = true := hf
    rw [Bool.and_eq_true] at hf
    cases g with
    | true => exact h.elim
    | false =>
      obtain ⟨b, e1, ⟨ents, clock, h1, h2⟩, e2⟩ := h
      exact ⟨b, e1, ⟨ents, clock, h1, REnts.flat hf.1 hf.2 h2.1, h2.2⟩, e2⟩
  | fn f c ih =>
    intro g x cs bs hf h
    cases g with
    | true => exact h.elim
    | false => obtain ⟨vs, e1, h1, h2⟩ := h; exact ⟨vs, e1, ih hf h1, h2⟩
  | nilfn => intro g x cs bs hf h; cases g with | false => exact h | true => exact h.elim
  | imm t => intro g x cs bs hf h; cases hf
  | pr a b iha ihb =>
    intro g x cs bs hf h
    have hf : (a.flat && b.flat) = true := hf
    rw [Bool.and_eq_true] at hf
    cases g with
    | true => exact h.elim
    | false =>
      obtain ⟨c, r, b1, b2, e1, e2, h1, h2⟩ := h
      exact ⟨c, r, b1, b2, e1, e2, iha hf.1 h1, ihb hf.2 h2⟩
  | cons a b iha ihb =>
    intro g x cs bs hf h
    have hf : (a.flat && b.flat) = true := hf
    rw [Bool.and_eq_true] at hf
    cases g with
    | false => exact h.elim
    | true =>
      obtain ⟨v, r, b1, b2, e1, e2, h1, h2⟩ := h
      refine ⟨v, r, b1, b2, e1, e2, ?_, ihb hf.2 h2⟩
      cases hg : a.agg with
      | true => rw [hg] at h1; obtain ⟨cs, e3, h3⟩ := h1; exact ⟨cs, e3, iha hf.1 h3⟩
      | false => rw [hg] at h1; exact iha hf.1 h1
  | un => intro g x cs bs hf h; cases g with | false => exact h | true => exact h
  | nix => intro g x cs bs hf h; cases g with | false => exact h.elim | true => exact h.elim

end

/-- Where these keys' blocks lie. -/
def blocksOf (μ : Nat → Option At) (ks : List Nat) : List Nat := ks.filterMap fun k => match μ k with
  | some p => cond p.nl none (some p.b)
  | none => none

theorem blocksOf_append (μ : Nat → Option At) (a b : List Nat) : blocksOf μ (a ++ b) = blocksOf μ a ++ blocksOf μ b := List.filterMap_append

/-- Are these keys live? -/
def Keys (μ : Nat → Option At) (bl : List (Nat × Blk)) (ks : List Nat) : Prop := ∀ k ∈ ks, ∃ x p, lk bl k = some x ∧ x ≠ .dead ∧ μ k = some p

section
variable {μ : Nat → Option At} {S S' : Nat → Prop} {w : World} {bl : List (Nat × Blk)} {nb : Nat}

theorem mem_blocksOf {ks : List Nat} {b : Nat} (hk : Keys μ bl ks) : b ∈ blocksOf μ ks ↔ Of μ bl ks b := by
  simp only [blocksOf, List.mem_filterMap, Of]
  constructor
  · rintro ⟨k, hin, h⟩
    obtain ⟨x, p, h1, h2, h3⟩ := hk k hin
    rw [h3] at h
    cases hnl : p.nl with
    | true => simp [hnl] at h
    | false => simp only [hnl, cond_false, Option.some.injEq] at h; exact ⟨k, hin, x, p, h1, h2, h3, hnl, h⟩
  · rintro ⟨k, hin, x, p, h1, h2, h3, hnl, hb⟩
    exact ⟨k, hin, by rw [h3]; simp [hnl, hb]⟩

theorem has_iff {l : List Nat} {k : Nat} : has l k = true ↔ k ∈ l := by
  induction l with
  | nil => simp [has]
  | cons j r ih =>
    rw [has]
    by_cases h : j = k
    · subst h; simp
    · have : Nat.beq j k = false := by
        cases hb : Nat.beq j k with
        | true => exact absurd (Nat.eq_of_beq_eq_true hb) h
        | false => rfl
      rw [this]
      simp only [cond_false, ih, List.mem_cons]
      constructor
      · exact .inr
      · rintro (h1 | h1)
        · exact absurd h1.symm h
        · exact h1

theorem once_nodup : ∀ {l : List Nat}, once l = true → l.Nodup
  | [], _ => List.nodup_nil
  | j :: r, h => by
    rw [once] at h
    cases hb : has r j with
    | true => rw [hb] at h; cases h
    | false =>
      rw [hb] at h
      refine List.nodup_cons.2 ⟨fun hin => ?_, once_nodup h⟩
      rw [has_iff.2 hin] at hb; cases hb

theorem sall_iff {α : Type} {p : α → Bool} : ∀ {l : List α}, sall p l = true ↔ ∀ x ∈ l, p x = true
  | [] => by simp [sall]
  | x :: l => by
    rw [sall]
    cases hp : p x with
    | true => simp [sall_iff (l := l), hp]
    | false => simp [hp]

theorem apartK_ok {refs gone : List Nat} (h : apartK refs gone = true) : refs.Nodup ∧ ∀ k ∈ refs, k ∉ gone := by
  obtain ⟨h1, h2, _⟩ := and3_true h
  refine ⟨once_nodup h1, fun k hk hg => ?_⟩
  have := sall_iff.1 h2 k hk
  rw [has_iff.2 hg] at this
  cases this

/-- Different keys, different blocks. -/
theorem blocksOf_nodup (hB : SimB μ S w bl nb) : ∀ {ks : List Nat}, Keys μ bl ks → ks.Nodup → (blocksOf μ ks).Nodup
  | [], _, _ => List.nodup_nil
  | k :: r, hk, hn => by
    obtain ⟨hn1, hn2⟩ := List.nodup_cons.1 hn
    have ih := blocksOf_nodup hB (fun j hj => hk j (by simp [hj])) hn2
    obtain ⟨x, p, h1, h2, h3⟩ := hk k (by simp)
    have e : blocksOf μ (k :: r) = (cond p.nl [] [p.b]) ++ blocksOf μ r := by
      simp only [blocksOf, List.filterMap_cons, h3]
      cases p.nl <;> simp
    rw [e]
    cases hnl : p.nl with
    | true => simpa using ih
    | false =>
      simp only [cond_false, List.singleton_append, List.nodup_cons]
      refine ⟨fun hin => ?_, ih⟩
      obtain ⟨j, hj, y, q, g1, g2, g3, g4, g5⟩ := (mem_blocksOf (fun j hj => hk j (by simp [hj]))).1 hin
      have := hB.inj k j x y p q h1 g1 h2 g2 h3 g3 hnl g4 g5.symm
      subst this
      exact hn1 hj

/-- A value is read by its shape. -/
theorem Sh.get_ok (hB : SimB μ S w bl nb) : ∀ {s : Sh} {g : Bool} {v : AV} {cs : List Value} {r : Got s.ty}, Sh.get bl s v = some r → RX μ S w g v cs → (g = true → s.list = true) →
    (∀ b, S b → S' b) → (∀ b, Of μ bl r.gone b → S' b) → ShX S' w g s r.x cs (blocksOf μ r.refs) ∧ Keys μ bl r.refs ∧ Keys μ bl r.gone ∧ (g = false → v.agg = s.agg) := by
  intro s
  induction s with
  | nix => intro g v cs r h; cases v <;> simp [Sh.get] at h
  | dat t =>
    intro g v cs r h hv hl hS hg
    cases g with
    | true => cases hl rfl
    | false =>
    rw [Sh.get] at h
    obtain ⟨⟨x, ks⟩, hx, h⟩ := ob_some h
    cases h
    obtain ⟨h1, h2⟩ := AV.take_ok hB hx hv hS hg
    refine ⟨⟨h1, rfl⟩, fun k hk => by simp at hk, fun k hk => ?_, fun _ => h2⟩
    obtain ⟨e, xs, hk'⟩ := AV.take_rows hx k hk
    obtain ⟨p, hp, _⟩ := hB.blk k _ hk'
    exact ⟨_, p, hk', by simp, hp⟩
  | own e =>
    intro g v cs r h hv hl hS hg
    cases g with
    | true => cases hl rfl
    | false =>
    cases v with
    | own k =>
      rw [Sh.get] at h
      split at h
      · rename_i e' xs hk
        split at h
        · rename_i hs _
          cases hs with
          | mk hs =>
          cases hs
          cases h
          obtain ⟨p, hp, e1⟩ := hv
          obtain ⟨q, hq, hr⟩ := hB.blk k _ hk
          rw [hp] at hq; cases hq
          have hr : RowAt S w p e xs := hr
          have hr' : RowAt S' w p e xs := hr.move hS (fun _ _ => rfl) (fun _ => rfl)
          refine ⟨⟨p, e1, hr', ?_⟩, ?_, fun k hk => by simp at hk, fun _ => rfl⟩
          · simp only [blocksOf, List.filterMap_cons, hp, List.filterMap_nil]
            cases p.nl <;> rfl
          · intro j hj
            simp only [List.mem_singleton] at hj
            subst hj
            exact ⟨_, p, hk, by simp, hp⟩
        · cases h
      · cases h
    | nil =>
      rw [Sh.get] at h
      cases h
      have hv : cs = [.slice none 0 0] := hv
      exact ⟨⟨⟨0, 0, 0, 0, true⟩, hv, ⟨rfl, .inl ⟨rfl, rfl, rfl⟩⟩, rfl⟩, fun k hk => by simp at hk, fun k hk => by simp at hk, fun _ => rfl⟩
    | _ => simp [Sh.get] at h
  | box s ih =>
    intro g v cs r h hv hl hS hg
    cases g with
    | true => cases hl rfl
    | false =>
    cases v with
    | ptr k off =>
      rw [Sh.get] at h
      obtain ⟨ho, h⟩ := condT h
      have ho := beq_true ho
      subst ho
      split at h
      · rename_i u hk
        obtain ⟨gt, hg1, h⟩ := ob_some h
        cases h
        obtain ⟨p, hp, e1⟩ := hv
        obtain ⟨q, hq, hnl, cs', ty, h1, h2⟩ := hB.blk k _ hk
        rw [hp] at hq; cases hq
        obtain ⟨i1, i2, i3, _⟩ := ih hg1 h2 (by simp) hS hg
        refine ⟨⟨p.b, cs', ty, _, e1, h1, i1, ?_⟩, ?_, i3, fun _ => rfl⟩
        · simp only [blocksOf, List.filterMap_cons, hp, hnl, cond_false]
        · intro j hj
          rcases List.mem_cons.1 hj with rfl | hj
          · exact ⟨_, p, hk, by simp, hp⟩
          · exact i2 j hj
      · cases h
    | _ => simp [Sh.get] at h
  | map kt vt =>
    intro g v cs r h hv hl hS hg
    cases g with
    | true => cases hl rfl
    | false =>
    cases v with
    | mp k =>
      rw [Sh.get] at h
      split at h
      · rename_i kt' vt' es hk
        split at h
        · rename_i hs _
          cases hs with
          | mk hs =>
          cases hs
          cases h
          obtain ⟨p, hp, e1⟩ := hv
          obtain ⟨q, hq, hnl, hm⟩ := hB.blk k _ hk
          rw [hp] at hq; cases hq
          have hm : MapAt S w p.b kt vt es := hm
          refine ⟨⟨p.b, e1, hm.move hS (fun _ _ => rfl) rfl, ?_⟩, ?_, fun k hk => by simp at hk, fun _ => rfl⟩
          · simp only [blocksOf, List.filterMap_cons, hp, hnl, List.filterMap_nil, cond_false]
          · intro j hj
            simp only [List.mem_singleton] at hj
            subst hj
            exact ⟨_, p, hk, by simp, hp⟩
        · cases h
      · cases h
    | _ => simp [Sh.get] at h
  | fn f c ih =>
    intro g v cs r h hv hl hS hg
    cases g with
    | true => cases hl rfl
    | false =>
    cases v with
    | fn f' cap =>
      rw [Sh.get] at h
      obtain ⟨hf, h2⟩ := condT h
      clear h
      obtain ⟨f1, f2, _⟩ := and3_true hf
      have f1 := beq_true f1
      subst f1
      obtain ⟨vs, e1, hr⟩ := hv
      obtain ⟨i1, i2, i3, _⟩ := ih h2 hr (fun _ => f2) hS hg
      exact ⟨⟨vs, e1, i1, f2⟩, i2, i3, fun _ => rfl⟩
    | _ => simp [Sh.get] at h
  | nilfn =>
    intro g v cs r h hv hl hS hg
    cases g with
    | true => cases hl rfl
    | false =>
    cases v with
    | nilfn => rw [Sh.get] at h; cases h; exact ⟨⟨hv, rfl⟩, fun k hk => by simp at hk, fun k hk => by simp at hk, fun _ => rfl⟩
    | _ => simp [Sh.get] at h
  | imm t =>
    intro g v cs r h hv hl hS hg
    cases g with
    | true => cases hl rfl
    | false =>
    cases v with
    | iptr u x =>
      rw [Sh.get] at h
      split at h
      · rename_i hs _
        cases hs with
        | mk hs =>
        cases hs
        cases h
        obtain ⟨b, o, ds, e1, h1, h2, h3⟩ := hv
        exact ⟨⟨⟨b, o, ds, e1, hS b h1, h2, Rep.move hS (fun _ _ => rfl) h3⟩, rfl⟩, fun k hk => by simp at hk, fun k hk => by simp at hk, fun _ => rfl⟩
      · cases h
    | _ => simp [Sh.get] at h
  | pr a b iha ihb =>
    intro g v cs r h hv hl hS hg
    cases g with
    | true => cases hl rfl
    | false =>
    rw [Sh.get] at h
    obtain ⟨⟨u1, u2⟩, hu, h⟩ := ob_some h
    obtain ⟨g1, h1, h⟩ := ob_some h
    obtain ⟨g2, h2, h⟩ := ob_some h
    cases h
    obtain ⟨c, r, e, hc, hr⟩ := RC.two hu hv
    simp only [sapp_eq] at hg
    obtain ⟨i1, i2, i3, _⟩ := iha h1 hc (by simp) hS (fun b hb => hg b (Of.imp (fun k hk => by simp [hk]) hb))
    obtain ⟨j1, j2, j3, _⟩ := ihb h2 hr (by simp) hS (fun b hb => hg b (Of.imp (fun k hk => by simp [hk]) hb))
    refine ⟨⟨c, r, _, _, e, ?_, i1, j1⟩, ?_, ?_, ?_⟩
    · simp only [sapp_eq, blocksOf_append]
    · intro k hk
      simp only [sapp_eq, List.mem_append] at hk
      rcases hk with hk | hk
      · exact i2 k hk
      · exact j2 k hk
    · intro k hk
      simp only [sapp_eq, List.mem_append] at hk
      rcases hk with hk | hk
      · exact i3 k hk
      · exact j3 k hk
    · intro _
      unfold AV.two at hu
      split at hu
      · rfl
      · rfl
      · cases hu
  | cons a b iha ihb =>
    intro g v cs r h hv hl hS hg
    cases v with
    | cons u1 u2 =>
      cases g with
      | false => exact hv.elim
      | true =>
      rw [Sh.get] at h
      obtain ⟨g1, h1, h⟩ := ob_some h
      obtain ⟨g2, h2, h⟩ := ob_some h
      cases h
      simp only [sapp_eq] at hg
      obtain ⟨d, r, e, hd, hr⟩ := hv
      have hlb : b.list = true := hl rfl
      obtain ⟨j1, j2, j3, _⟩ := ihb h2 hr (fun _ => hlb) hS (fun b hb => hg b (Of.imp (fun k hk => by simp [hk]) hb))
      have key : ∃ cs, RX μ S w false u1 cs ∧ ((u1.agg = true ∧ d = .agg (List.toArray cs)) ∨ (u1.agg = false ∧ cs = [d])) := by
        cases hga : u1.agg with
        | true => rw [hga] at hd; obtain ⟨cs, e1, h3⟩ := hd; exact ⟨cs, h3, .inl ⟨rfl, e1⟩⟩
        | false => rw [hga] at hd; exact ⟨[d], hd, .inr ⟨rfl, rfl⟩⟩
      obtain ⟨cs, hcs, hd'⟩ := key
      obtain ⟨i1, i2, i3, i4⟩ := iha h1 hcs (by simp) hS (fun b hb => hg b (Of.imp (fun k hk => by simp [hk]) hb))
      refine ⟨⟨d, r, blocksOf μ g1.refs, _, e, ?_, ?_, j1⟩, ?_, ?_, by simp⟩
      · simp only [sapp_eq, blocksOf_append]
      · rw [← i4 rfl]
        rcases hd' with ⟨hga, e1⟩ | ⟨hga, e1⟩
        · rw [hga]; exact ⟨cs, e1, i1⟩
        · rw [hga]; subst e1; exact i1
      · intro k hk
        simp only [sapp_eq, List.mem_append] at hk
        rcases hk with hk | hk
        · exact i2 k hk
        · exact j2 k hk
      · intro k hk
        simp only [sapp_eq, List.mem_append] at hk
        rcases hk with hk | hk
        · exact i3 k hk
        · exact j3 k hk
    | _ => simp [Sh.get] at h
  | un =>
    intro g v cs r h hv hl hS hg
    cases v with
    | un =>
      rw [Sh.get] at h
      cases h
      cases g with
      | false => exact ⟨⟨hv, rfl⟩, fun k hk => by simp at hk, fun k hk => by simp at hk, fun _ => rfl⟩
      | true => exact ⟨⟨hv, rfl⟩, fun k hk => by simp at hk, fun k hk => by simp at hk, by simp⟩
    | dat t x =>
      cases t with
      | un =>
        rw [Sh.get] at h
        cases h
        cases g with
        | false => exact ⟨⟨hv, rfl⟩, fun k hk => by simp at hk, fun k hk => by simp at hk, fun _ => rfl⟩
        | true => exact hv.elim
      | _ => simp [Sh.get] at h
    | _ => simp [Sh.get] at h

end
end Go.Pv

/- Values made by their shapes. -/
set_option linter.unusedVariables false
set_option linter.unusedSimpArgs false
namespace Go.Pv

section
variable {μ : Nat → Option At} {S : Nat → Prop} {w : World} {bl : List (Nat × Blk)} {nb : Nat}

theorem SimB.mu_ne (hB : SimB μ S w bl nb) {k : Nat} {p : At} (h : μ k = some p) : k ≠ nb := fun e => by have := hB.dom k p h; omega
theorem SimB.upd_mu (hB : SimB μ S w bl nb) (p : At) : ∀ k q, μ k = some q → upd μ nb p k = some q := fun k q hk => upd_old hk (hB.mu_ne hk)

/-- A block that is no one's becomes one of the state's. -/
theorem SimB.adopt (hB : SimB μ S w bl nb) {p : At} {x : Blk} (hp : p.nl = false → p.b < w.heap.size ∧ ¬ S p.b ∧ ¬ Liv μ bl p.b) (hd : x ≠ .dead) (hx : RB (upd μ nb p) S w nb x) :
    SimB (upd μ nb p) S w ((nb, x) :: bl) (nb + 1) ∧ ∀ b, Liv (upd μ nb p) ((nb, x) :: bl) b ↔ Liv μ bl b ∨ (p.nl = false ∧ p.b = b) := by
  have hmu := hB.upd_mu p
  have hnone : lk bl nb = none ∨ ∃ y, lk bl nb = some y ∧ y = .dead := by
    cases h : lk bl nb with
    | none => exact .inl rfl
    | some y =>
      refine .inr ⟨y, rfl, ?_⟩
      have := hB.blk nb y h
      cases y with
      | dead => rfl
      | box v => obtain ⟨q, hq, _⟩ := this; exact absurd rfl (hB.mu_ne hq)
      | row e xs => obtain ⟨q, hq, _⟩ := this; exact absurd rfl (hB.mu_ne hq)
      | vals n sz vs => obtain ⟨q, hq, _⟩ := this; exact absurd rfl (hB.mu_ne hq)
      | map kt vt es => obtain ⟨q, hq, _⟩ := this; exact absurd rfl (hB.mu_ne hq)
  have hliv : ∀ b, Liv (upd μ nb p) ((nb, x) :: bl) b ↔ Liv μ bl b ∨ (p.nl = false ∧ p.b = b) := by
    intro b
    constructor
    · rintro ⟨k, y, q, hk, hy, hq, hn, hb⟩
      rw [lk_cons] at hk
      by_cases hkn : nb = k
      · subst hkn; rw [upd_self] at hq; cases hq; exact .inr ⟨hn, hb⟩
      · rw [if_neg hkn] at hk
        rw [upd, if_neg (fun e => hkn e.symm)] at hq
        exact .inl ⟨k, y, q, hk, hy, hq, hn, hb⟩
    · rintro (⟨k, y, q, hk, hy, hq, hn, hb⟩ | ⟨hn, hb⟩)
      · have hne := hB.mu_ne hq
        exact ⟨k, y, q, by rw [lk_cons, if_neg (fun e => hne e.symm)]; exact hk, hy, hmu k q hq, hn, hb⟩
      · exact ⟨nb, x, p, by rw [lk_cons, if_pos rfl], hd, upd_self _ _ _, hn, hb⟩
  refine ⟨⟨?_, ?_, ?_, ?_, hB.sb, hB.gl⟩, hliv⟩
  · intro k q hk
    by_cases hkn : k = nb
    · omega
    · rw [upd, if_neg hkn] at hk; have := hB.dom k q hk; omega
  · intro k y hk
    rw [lk_cons] at hk
    by_cases hkn : nb = k
    · rw [if_pos hkn] at hk; cases hk; subst hkn; exact hx
    · rw [if_neg hkn] at hk
      exact RB.move hmu (fun _ h => h) (fun _ _ => rfl) (fun _ _ _ _ => rfl) (hB.blk k y hk)
  · intro b hb
    rcases (hliv b).1 hb with h1 | ⟨hn, rfl⟩
    · exact hB.old b h1
    · exact ⟨(hp hn).1, (hp hn).2.1⟩
  · intro k k' y y' q q' hk hk' hy hy' hq hq' hn hn' hbb
    rw [lk_cons] at hk hk'
    by_cases h1 : nb = k <;> by_cases h2 : nb = k'
    · omega
    · subst h1; rw [upd_self] at hq; cases hq
      rw [if_neg h2] at hk'; rw [upd, if_neg (fun e => h2 e.symm)] at hq'
      exact absurd ⟨k', y', q', hk', hy', hq', hn', hbb.symm⟩ (hp hn).2.2
    · subst h2; rw [upd_self] at hq'; cases hq'
      rw [if_neg h1] at hk; rw [upd, if_neg (fun e => h1 e.symm)] at hq
      exact absurd ⟨k, y, q, hk, hy, hq, hn, hbb⟩ (hp hn').2.2
    · rw [if_neg h1] at hk; rw [if_neg h2] at hk'
      rw [upd, if_neg (fun e => h1 e.symm)] at hq; rw [upd, if_neg (fun e => h2 e.symm)] at hq'
      exact hB.inj k k' y y' q q' hk hk' hy hy' hq hq' hn hn' hbb

/-- What has been made. -/
structure Made (μ : Nat → Option At) (S : Nat → Prop) (w : World) (st : St) (μ1 : Nat → Option At) (st1 : St) (bs : List Nat) : Prop where
  sim : SimB μ1 S w st1.bl st1.nb
  mu : ∀ k p, μ k = some p → μ1 k = some p
  liv : ∀ b, Liv μ1 st1.bl b ↔ Liv μ st.bl b ∨ b ∈ bs
  nb : st.nb ≤ st1.nb
  fr : st1.fr = st.fr
  ext : ∃ ε, st1.bl = ε ++ st.bl ∧ ∀ p ∈ ε, st.nb ≤ p.1
  low : ∀ k, k < st.nb → μ1 k = μ k

theorem Made.none {st : St} (hB : SimB μ S w st.bl st.nb) : Made μ S w st μ st [] :=
  ⟨hB, fun _ _ h => h, fun b => by simp, Nat.le_refl _, rfl, ⟨[], rfl, by simp⟩, fun _ _ => rfl⟩

theorem Made.trans {st st1 st2 : St} {μ1 μ2 : Nat → Option At} {b1 b2 : List Nat} (h : Made μ S w st μ1 st1 b1) (k : Made μ1 S w st1 μ2 st2 b2) : Made μ S w st μ2 st2 (b1 ++ b2) where
  sim := k.sim
  mu i p hp := k.mu i p (h.mu i p hp)
  liv b := by rw [k.liv, h.liv, List.mem_append, or_assoc]
  nb := Nat.le_trans h.nb k.nb
  fr := k.fr.trans h.fr
  ext := by
    obtain ⟨ε, e1, h1⟩ := h.ext
    obtain ⟨δ, e2, h2⟩ := k.ext
    refine ⟨δ ++ ε, by rw [e2, e1, List.append_assoc], fun p hp => ?_⟩
    rcases List.mem_append.1 hp with hp | hp
    · exact Nat.le_trans h.nb (h2 p hp)
    · exact h1 p hp
  low i hi := (k.low i (Nat.lt_of_lt_of_le hi h.nb)).trans (h.low i hi)

theorem Made.same {st st1 : St} {μ1 : Nat → Option At} {b1 b2 : List Nat} (h : Made μ S w st μ1 st1 b1) (hb : ∀ b, b ∈ b1 ↔ b ∈ b2) : Made μ S w st μ1 st1 b2 :=
  ⟨h.sim, h.mu, fun b => by rw [h.liv, hb], h.nb, h.fr, h.ext, h.low⟩

/-- One block more. -/
theorem Made.one {st : St} (hB : SimB μ S w st.bl st.nb) {p : At} {x : Blk} (hp : p.nl = false → p.b < w.heap.size ∧ ¬ S p.b ∧ ¬ Liv μ st.bl p.b) (hd : x ≠ .dead) (hx : RB (upd μ st.nb p) S w st.nb x) :
    Made μ S w st (upd μ st.nb p) ⟨st.fr, (st.nb, x) :: st.bl, st.nb + 1⟩ (cond p.nl [] [p.b]) := by
  obtain ⟨h1, h2⟩ := hB.adopt hp hd hx
  refine ⟨h1, hB.upd_mu p, fun b => ?_, Nat.le_succ _, rfl, ⟨[(st.nb, x)], rfl, by simp⟩, fun k hk => by rw [upd, if_neg (by omega)]⟩
  rw [h2]
  cases hnl : p.nl with
  | true => simp
  | false => simp [eq_comm]

theorem lk_ext {α : Type} {ε l : List (Nat × α)} {n k : Nat} (h : ∀ p ∈ ε, n ≤ p.1) (hk : k < n) : lk (ε ++ l) k = lk l k := by
  induction ε with
  | nil => rfl
  | cons p r ih =>
    rw [List.cons_append, lk_cons, if_neg, ih (fun q hq => h q (by simp [hq]))]
    have := h p (by simp)
    omega

/-- A value is made. -/
theorem Sh.mk_ok : ∀ {s : Sh} {g : Bool} {x : s.ty.den} {cs : List Value} {bs : List Nat} {μ : Nat → Option At} {st : St}, ShX S w g s x cs bs → SimB μ S w st.bl st.nb → bs.Nodup →
    (∀ b ∈ bs, b < w.heap.size ∧ ¬ S b ∧ ¬ Liv μ st.bl b) →
    ∃ μ1, Made μ S w st μ1 (Sh.mk s x st).2 bs ∧ RX μ1 S w g (Sh.mk s x st).1 cs ∧ (g = false → (Sh.mk s x st).1.agg = s.agg) := by
  intro s
  induction s with
  | dat t =>
    intro g x cs bs μ st h hB hn hb
    cases g with
    | true => exact h.elim
    | false =>
      obtain ⟨h1, rfl⟩ := h
      exact ⟨μ, Made.none hB, h1, fun _ => rfl⟩
  | own e =>
    intro g x cs bs μ st h hB hn hb
    cases g with
    | true => exact h.elim
    | false =>
      obtain ⟨p, e1, h1, e2⟩ := h
      refine ⟨upd μ st.nb p, ?_, ⟨p, upd_self _ _ _, e1⟩, fun _ => rfl⟩
      rw [e2]
      refine Made.one hB (fun hnl => hb p.b (by rw [e2, hnl]; simp)) (by simp) ?_
      obtain ⟨h2, h3⟩ := h1
      exact ⟨p, upd_self _ _ _, h2, h3⟩
  | box s ih =>
    intro g x cs bs μ st h hB hn hb
    cases g with
    | true => exact h.elim
    | false =>
      obtain ⟨b, cs', ty, bs', e1, h1, h2, e2⟩ := h
      subst e2
      obtain ⟨hn1, hn2⟩ := List.nodup_cons.1 hn
      obtain ⟨μ1, hm, hr, _⟩ := ih h2 hB hn2 (fun b' hb' => hb b' (by simp [hb']))
      have hb0 := hb b (by simp)
      have hm2 := Made.one (st := (Sh.mk s x st).2) (p := ⟨b, 0, 0, 0, false⟩) (x := .box (Sh.mk s x st).1) hm.sim (fun _ => ⟨hb0.1, hb0.2.1, fun hl => by
          rcases (hm.liv b).1 hl with h | h
          · exact hb0.2.2 h
          · exact hn1 h⟩) (by simp) ⟨_, upd_self _ _ _, rfl, cs', ty, h1, RX.move (hm.sim.upd_mu _) (fun _ h => h) (fun _ _ => rfl) hr⟩
      refine ⟨_, (hm.trans hm2).same (fun b' => by simp [or_comm]), ⟨_, upd_self _ _ _, e1⟩, fun _ => rfl⟩
  | map kt vt =>
    intro g x cs bs μ st h hB hn hb
    cases g with
    | true => exact h.elim
    | false =>
      obtain ⟨b, e1, h1, e2⟩ := h
      subst e2
      refine ⟨upd μ st.nb ⟨b, 0, 0, 0, false⟩, Made.one hB (fun _ => hb b (by simp)) (by simp) ?_, ⟨_, upd_self _ _ _, e1⟩, fun _ => rfl⟩
      obtain ⟨ents, clock, h2, h3⟩ := h1
      exact ⟨_, upd_self _ _ _, rfl, ents, clock, h2, h3⟩
  | fn f c ih =>
    intro g x cs bs μ st h hB hn hb
    cases g with
    | true => exact h.elim
    | false =>
      obtain ⟨vs, e1, h1, h2⟩ := h
      obtain ⟨μ1, hm, hr, _⟩ := ih h1 hB hn hb
      exact ⟨μ1, hm, ⟨vs, e1, hr⟩, fun _ => rfl⟩
  | nilfn =>
    intro g x cs bs μ st h hB hn hb
    cases g with
    | true => exact h.elim
    | false => obtain ⟨h1, rfl⟩ := h; exact ⟨μ, Made.none hB, h1, fun _ => rfl⟩
  | imm t =>
    intro g x cs bs μ st h hB hn hb
    cases g with
    | true => exact h.elim
    | false => obtain ⟨h1, rfl⟩ := h; exact ⟨μ, Made.none hB, h1, fun _ => rfl⟩
  | pr a b iha ihb =>
    intro g x cs bs μ st h hB hn hb
    cases g with
    | true => exact h.elim
    | false =>
      obtain ⟨c, r, b1, b2, e1, e2, h1, h2⟩ := h
      subst e2
      obtain ⟨n1, n2, n3⟩ := List.nodup_append.1 hn
      obtain ⟨μ1, m1, r1, _⟩ := iha h1 hB n1 (fun b' hb' => hb b' (by simp [hb']))
      obtain ⟨μ2, m2, r2, _⟩ := ihb h2 m1.sim n2 (fun b' hb' => ⟨(hb b' (by simp [hb'])).1, (hb b' (by simp [hb'])).2.1, fun hl => by
        rcases (m1.liv b').1 hl with h | h
        · exact (hb b' (by simp [hb'])).2.2 h
        · exact n3 _ h _ hb' rfl⟩)
      refine ⟨μ2, m1.trans m2, ?_, fun _ => AV.mk_agg _ _⟩
      rw [e1]
      exact RC.mk (RX.move m2.mu (fun _ h => h) (fun _ _ => rfl) r1) r2
  | cons a b iha ihb =>
    intro g x cs bs μ st h hB hn hb
    cases g with
    | false => exact h.elim
    | true =>
      obtain ⟨v, r, b1, b2, e1, e2, h1, h2⟩ := h
      subst e2
      obtain ⟨n1, n2, n3⟩ := List.nodup_append.1 hn
      have key : ∃ cs, ShX S w false a x.1 cs b1 ∧ ((a.agg = true ∧ v = .agg (List.toArray cs)) ∨ (a.agg = false ∧ cs = [v])) := by
        cases hga : a.agg with
        | true => rw [hga] at h1; obtain ⟨cs, e1, h3⟩ := h1; exact ⟨cs, h3, .inl ⟨rfl, e1⟩⟩
        | false => rw [hga] at h1; exact ⟨[v], h1, .inr ⟨rfl, rfl⟩⟩
      obtain ⟨cs', hcs, hv⟩ := key
      obtain ⟨μ1, m1, r1, g1⟩ := iha hcs hB n1 (fun b' hb' => hb b' (by simp [hb']))
      obtain ⟨μ2, m2, r2, _⟩ := ihb h2 m1.sim n2 (fun b' hb' => ⟨(hb b' (by simp [hb'])).1, (hb b' (by simp [hb'])).2.1, fun hl => by
        rcases (m1.liv b').1 hl with h | h
        · exact (hb b' (by simp [hb'])).2.2 h
        · exact n3 _ h _ hb' rfl⟩)
      have r1' : RX μ2 S w false (Sh.mk a x.1 st).1 cs' := RX.move m2.mu (fun _ h => h) (fun _ _ => rfl) r1
      refine ⟨μ2, m1.trans m2, ⟨v, r, e1, ?_, r2⟩, by simp⟩
      rw [g1 rfl]
      rcases hv with ⟨hga, e⟩ | ⟨hga, e⟩
      · rw [hga]; exact ⟨cs', e, r1'⟩
      · rw [hga]; subst e; exact r1'
  | un =>
    intro g x cs bs μ st h hB hn hb
    cases g with
    | false => obtain ⟨h1, rfl⟩ := h; exact ⟨μ, Made.none hB, h1, fun _ => rfl⟩
    | true => obtain ⟨h1, rfl⟩ := h; exact ⟨μ, Made.none hB, h1, by simp⟩
  | nix =>
    intro g x cs bs μ st h
    cases g with
    | false => exact h.elim
    | true => exact h.elim

/-- One value is made. -/
theorem Sh.mk_v {s : Sh} {x : s.ty.den} {v : Value} {bs : List Nat} {μ : Nat → Option At} {st : St} (h : ShV S w s x v bs) (hB : SimB μ S w st.bl st.nb) (hn : bs.Nodup)
    (hb : ∀ b ∈ bs, b < w.heap.size ∧ ¬ S b ∧ ¬ Liv μ st.bl b) : ∃ μ1, Made μ S w st μ1 (Sh.mk s x st).2 bs ∧ RV μ1 S w (Sh.mk s x st).1 v ∧ (Sh.mk s x st).1.agg = s.agg := by
  unfold ShV at h
  cases hg : s.agg with
  | true =>
    rw [hg] at h
    obtain ⟨cs, e, h⟩ := h
    obtain ⟨μ1, h1, h2, h3⟩ := Sh.mk_ok h hB hn hb
    have h3 := h3 rfl
    exact ⟨μ1, h1, RV.of (by rw [h3, hg]; exact ⟨cs, e, h2⟩), h3.trans hg⟩
  | false =>
    rw [hg] at h
    obtain ⟨μ1, h1, h2, h3⟩ := Sh.mk_ok h hB hn hb
    have h3 := h3 rfl
    exact ⟨μ1, h1, RV.of (by rw [h3, hg]; exact h2), h3.trans hg⟩

/-- A function's result is made. -/
theorem Sh.mk_r {s : Sh} {x : s.ty.den} {v : Value} {bs : List Nat} {μ : Nat → Option At} {st : St} (h : ShR S w s x v bs) (hB : SimB μ S w st.bl st.nb) (hn : bs.Nodup)
    (hb : ∀ b ∈ bs, b < w.heap.size ∧ ¬ S b ∧ ¬ Liv μ st.bl b) : ∃ μ1, Made μ S w st μ1 (Sh.mk s x st).2 bs ∧ RV μ1 S w (Sh.mk s x st).1 v := by
  cases s with
  | nix => cases h; exact ⟨μ, Made.none hB, trivial⟩
  | cons a b =>
    obtain ⟨vs, e, h⟩ := h
    obtain ⟨μ1, h1, h2, _⟩ := Sh.mk_ok h hB hn hb
    exact ⟨μ1, h1, .inr ⟨vs, e, h2⟩⟩
  | dat t => obtain ⟨μ1, h1, h2, _⟩ := Sh.mk_v (s := .dat t) h hB hn hb; exact ⟨μ1, h1, h2⟩
  | own e => obtain ⟨μ1, h1, h2, _⟩ := Sh.mk_v (s := .own e) h hB hn hb; exact ⟨μ1, h1, h2⟩
  | box e => obtain ⟨μ1, h1, h2, _⟩ := Sh.mk_v (s := .box e) h hB hn hb; exact ⟨μ1, h1, h2⟩
  | map e f => obtain ⟨μ1, h1, h2, _⟩ := Sh.mk_v (s := .map e f) h hB hn hb; exact ⟨μ1, h1, h2⟩
  | fn e f => obtain ⟨μ1, h1, h2, _⟩ := Sh.mk_v (s := .fn e f) h hB hn hb; exact ⟨μ1, h1, h2⟩
  | nilfn => obtain ⟨μ1, h1, h2, _⟩ := Sh.mk_v (s := .nilfn) h hB hn hb; exact ⟨μ1, h1, h2⟩
  | imm t => obtain ⟨μ1, h1, h2, _⟩ := Sh.mk_v (s := .imm t) h hB hn hb; exact ⟨μ1, h1, h2⟩
  | pr e f => obtain ⟨μ1, h1, h2, _⟩ := Sh.mk_v (s := .pr e f) h hB hn hb; exact ⟨μ1, h1, h2⟩
  | un => obtain ⟨μ1, h1, h2, _⟩ := Sh.mk_v (s := .un) h hB hn hb; exact ⟨μ1, h1, h2⟩

/-- One value is read. -/
theorem Sh.get_v {S' : Nat → Prop} (hB : SimB μ S w bl nb) {s : Sh} {v : AV} {u : Value} {r : Got s.ty} (h : Sh.get bl s v = some r) (hv : RV μ S w v u) (hj : v ≠ .junk) (hc : ∀ x y, v ≠ .cons x y)
    (hS : ∀ b, S b → S' b) (hg : ∀ b, Of μ bl r.gone b → S' b) : ShV S' w s r.x u (blocksOf μ r.refs) ∧ Keys μ bl r.refs ∧ Keys μ bl r.gone := by
  have hv := hv.to hj hc
  unfold ShV
  cases hga : v.agg with
  | true =>
    rw [hga] at hv
    obtain ⟨cs, e, hv⟩ := hv
    obtain ⟨h1, h2, h3, h4⟩ := Sh.get_ok hB h hv (by simp) hS hg
    rw [← h4 rfl, hga]
    exact ⟨⟨cs, e, h1⟩, h2, h3⟩
  | false =>
    rw [hga] at hv
    obtain ⟨h1, h2, h3, h4⟩ := Sh.get_ok hB h hv (by simp) hS hg
    rw [← h4 rfl, hga]
    exact ⟨h1, h2, h3⟩

/-- A function's result is read. -/
theorem Sh.get_r {S' : Nat → Prop} (hB : SimB μ S w bl nb) {s : Sh} (hl : ∀ a b, s = .cons a b → b.list = true) {v : AV} {u : Value} {r : Got s.ty} (h : Sh.res bl s v = some r) (hv : RV μ S w v u)
    (hS : ∀ b, S b → S' b) (hg : ∀ b, Of μ bl r.gone b → S' b) : ShR S' w s r.x u (blocksOf μ r.refs) ∧ Keys μ bl r.refs ∧ Keys μ bl r.gone := by
  have plain : (∀ a b, s ≠ .cons a b) → Sh.get bl s v = some r → ShV S' w s r.x u (blocksOf μ r.refs) ∧ Keys μ bl r.refs ∧ Keys μ bl r.gone := by
    intro hs h
    by_cases hj : v = .junk
    · subst hj
      exfalso
      cases s <;> simp [Sh.get, AV.take, AV.two, ob] at h
    by_cases hc : ∃ x y, v = .cons x y
    · obtain ⟨x, y, rfl⟩ := hc
      exfalso
      cases s with
      | cons a b => exact hs a b rfl
      | _ => simp [Sh.get, AV.take, AV.two, ob] at h
    · exact Sh.get_v hB h hv hj (fun x y e => hc ⟨x, y, e⟩) hS hg
  cases s with
  | nix =>
    rw [Sh.res] at h; cases h
    exact ⟨rfl, fun k hk => by simp at hk, fun k hk => by simp at hk⟩
  | cons a b =>
    rw [Sh.res] at h
    cases v with
    | cons x y =>
      rcases hv with ⟨rfl, _⟩ | ⟨vs, e, hv⟩
      · exfalso
        have h : ob (Sh.get bl a .junk) _ = some r := h
        cases a <;> simp [Sh.get, AV.take, AV.two, ob] at h
      obtain ⟨h1, h2, h3, _⟩ := Sh.get_ok hB h hv (fun _ => hl a b rfl) hS hg
      exact ⟨⟨vs, e, h1⟩, h2, h3⟩
    | _ => simp [Sh.get] at h
    all_goals (intro e; cases e)
  | dat t => exact plain (by simp) h
  | own e => exact plain (by simp) h
  | box e => exact plain (by simp) h
  | map e f => exact plain (by simp) h
  | fn e f => exact plain (by simp) h
  | nilfn => exact plain (by simp) h
  | imm t => exact plain (by simp) h
  | pr e f => exact plain (by simp) h
  | un => exact plain (by simp) h

end
end Go.Pv

/- What is known of functions: the contract, and the state behind a call. -/
set_option linter.unusedVariables false
set_option linter.unusedSimpArgs false
namespace Go.Pv

/-- What a stretch of the run has done that began with the blocks bs as its own: behind it bs' are its own. -/
structure Ran (S : Nat → Prop) (w : World) (bs : List Nat) (S' : Nat → Prop) (w' : World) (bs' : List Nat) : Prop where
  os : w'.os = w.os
  tape : w'.tape = w.tape
  output : OutOk w w'
  size : w.heap.size ≤ w'.heap.size
  same : ∀ b, b < w.heap.size → b ∉ bs → w'.heap[b]? = w.heap[b]?
  sub : ∀ b, S b → S' b
  new : ∀ b, S' b → S b ∨ w.heap.size ≤ b ∨ b ∈ bs
  liv : ∀ b ∈ bs', b ∈ bs ∨ w.heap.size ≤ b
  old : ∀ b ∈ bs', b < w'.heap.size ∧ ¬ S' b
  nd : bs'.Nodup
  sb : ∀ b, S' b → b < w'.heap.size

/-- The blocks may be owned. -/
structure Own (S : Nat → Prop) (w : World) (bs : List Nat) : Prop where
  old : ∀ b ∈ bs, b < w.heap.size ∧ ¬ S b
  nd : bs.Nodup
  sb : ∀ b, S b → b < w.heap.size
  gl : Gl S w

theorem Own.refl {S : Nat → Prop} {w : World} {bs : List Nat} (h : Own S w bs) : Ran S w bs S w bs :=
  ⟨rfl, rfl, ⟨rfl, Nat.le_refl _⟩, Nat.le_refl _, fun _ _ _ => rfl, fun _ h => h, fun _ h => .inl h, fun _ h => .inl h, h.old, h.nd, h.sb⟩

theorem Ran.trans {S S1 S2 : Nat → Prop} {w w1 w2 : World} {b b1 b2 : List Nat} (h : Ran S w b S1 w1 b1) (k : Ran S1 w1 b1 S2 w2 b2) : Ran S w b S2 w2 b2 where
  os := k.os.trans h.os
  tape := k.tape.trans h.tape
  output := k.output.trans h.output
  size := Nat.le_trans h.size k.size
  same x hx hn := by
    refine (k.same x (Nat.lt_of_lt_of_le hx h.size) fun h1 => ?_).trans (h.same x hx hn)
    rcases h.liv x h1 with h2 | h2
    · exact hn h2
    · omega
  sub x hx := k.sub x (h.sub x hx)
  new x hx := by
    rcases k.new x hx with h1 | h1 | h1
    · exact h.new x h1
    · exact .inr (.inl (Nat.le_trans h.size h1))
    · rcases h.liv x h1 with h2 | h2
      · exact .inr (.inr h2)
      · exact .inr (.inl h2)
  liv x hx := by
    rcases k.liv x hx with h1 | h1
    · exact h.liv x h1
    · exact .inr (Nat.le_trans h.size h1)
  old := k.old
  nd := k.nd
  sb := k.sb

theorem Ran.still {S S' : Nat → Prop} {w w' : World} {bs bs' : List Nat} (h0 : Own S w bs) (h : Ran S w bs S' w' bs') : ∀ b, S b → w'.heap[b]? = w.heap[b]? :=
  fun b hb => h.same b (h0.sb b hb) (fun hin => (h0.old b hin).2 hb)

theorem Ran.own {S S' : Nat → Prop} {w w' : World} {bs bs' : List Nat} (h0 : Own S w bs) (h : Ran S w bs S' w' bs') : Own S' w' bs' := ⟨h.old, h.nd, h.sb, h0.gl.move h.sub (h.still h0)⟩

/-- A function of the program computes this. -/
def EntOk (P : Program) (f : Nat) (e : Ent) : Prop :=
  (∃ fn c, P.funcs[f]? = some fn ∧ fn.body = some c ∧ (fn.name == "runtime.NumGoroutine") = false) ∧
  ∀ (S : Nat → Prop) (w : World) (vs : List Value) (x : e.ins.ty.den) (bs : List Nat) (y : e.α), Own S w bs → ShX S w true e.ins.sh x vs bs → e.fn x = some y →
    Calls P f vs.toArray w fun
      | .returned v, w' => cond e.take (∃ S' b1, Ran S w bs S' w' b1 ∧ ShR S' w' e.res (e.out x y).1 v b1)
          (∃ S' b1 b2, Ran S w bs S' w' (b1 ++ b2) ∧ ShR S' w' e.res (e.out x y).1 v b1 ∧ ShX S' w' true e.ins.sh (e.ins.merge x (e.out x y).2) vs b2)
      | _, _ => False

theorem Fs.sh_list : ∀ l : Fs, l.sh.list = true
  | [] => rfl
  | _ :: r => Fs.sh_list r

/-- The arguments, those that are given back apart from the others. -/
def FsX (S : Nat → Prop) (w : World) : (l : Fs) → l.ty.den → List Value → List Nat → List Nat → Prop
  | [], _, vs, bF, bU => vs = [] ∧ bF = [] ∧ bU = []
  | (s, true) :: r, x, vs, bF, bU => ∃ v vr b1 b2, vs = v :: vr ∧ bF = b1 ++ b2 ∧ ShV S w s x.1 v b1 ∧ FsX S w r x.2 vr b2 bU
  | (s, false) :: r, x, vs, bF, bU => ∃ v vr b1 b2, vs = v :: vr ∧ bU = b1 ++ b2 ∧ ShV S w s x.1 v b1 ∧ FsX S w r x.2 vr bF b2

theorem FsX.of {S : Nat → Prop} {w : World} : ∀ {l : Fs} {x : l.ty.den} {vs : List Value} {bs : List Nat}, ShX S w true l.sh x vs bs → ∃ bF bU, FsX S w l x vs bF bU ∧ bs.Perm (bF ++ bU)
  | [], x, vs, bs, h => by
    obtain ⟨h1, h2⟩ := h
    exact ⟨[], [], ⟨h1, rfl, rfl⟩, by rw [h2]; exact .refl _⟩
  | (s, fl) :: r, x, vs, bs, h => by
    obtain ⟨v, vr, b1, b2, e1, e2, h1, h2⟩ := h
    obtain ⟨bF, bU, h3, h4⟩ := FsX.of h2
    have h1 : ShV S w s x.1 v b1 := h1
    subst e2
    cases fl with
    | true =>
      refine ⟨b1 ++ bF, bU, ⟨v, vr, b1, bF, e1, rfl, h1, h3⟩, ?_⟩
      rw [List.append_assoc]
      exact h4.append_left b1
    | false =>
      refine ⟨bF, b1 ++ bU, ⟨v, vr, b1, bU, e1, rfl, h1, h3⟩, ?_⟩
      exact (h4.append_left b1).trans (by
        rw [← List.append_assoc, ← List.append_assoc]
        exact (List.perm_append_comm).append_right bU)

/-- Those that are not given back. -/
def FsU (S : Nat → Prop) (w : World) : (l : Fs) → l.ty.den → List Value → List Nat → Prop
  | [], _, vs, bU => vs = [] ∧ bU = []
  | (_, true) :: r, x, vs, bU => ∃ v vr, vs = v :: vr ∧ FsU S w r x.2 vr bU
  | (s, false) :: r, x, vs, bU => ∃ v vr b1 b2, vs = v :: vr ∧ bU = b1 ++ b2 ∧ ShV S w s x.1 v b1 ∧ FsU S w r x.2 vr b2

theorem FsX.u {S : Nat → Prop} {w : World} : ∀ {l : Fs} {x : l.ty.den} {m : l.back.den} {vs : List Value} {bF bU : List Nat}, FsX S w l (l.merge x m) vs bF bU → FsU S w l x vs bU
  | [], x, m, vs, bF, bU, h => ⟨h.1, h.2.2⟩
  | (s, true) :: r, x, m, vs, bF, bU, h => by
    obtain ⟨v, vr, b1, b2, e1, e2, h1, h2⟩ := h
    exact ⟨v, vr, e1, FsX.u (l := r) h2⟩
  | (s, false) :: r, x, m, vs, bF, bU, h => by
    obtain ⟨v, vr, b1, b2, e1, e2, h1, h2⟩ := h
    exact ⟨v, vr, b1, b2, e1, e2, h1, FsX.u (l := r) h2⟩

section
variable {μ : Nat → Option At} {S : Nat → Prop} {w : World} {bl : List (Nat × Blk)} {nb : Nat}

theorem rowVal_inj {p q : At} (h : rowVal p = rowVal q) : p.n = q.n ∧ p.cap = q.cap ∧ p.nl = q.nl ∧ (p.nl = false → p.b = q.b ∧ p.o = q.o) := by
  unfold rowVal at h
  cases hp : p.nl <;> cases hq : q.nl <;> rw [hp, hq] at h <;> simp at h
  · obtain ⟨⟨h1, h2⟩, h3, h4⟩ := h
    exact ⟨h3, h4, rfl, fun _ => ⟨h1, h2⟩⟩
  · exact ⟨h.1, h.2, rfl, by simp⟩

theorem RowAt.congr {p q : At} {e : Ty} {xs : List e.den} (hpq : rowVal p = rowVal q) (h : RowAt S w q e xs) : RowAt S w p e xs := by
  obtain ⟨h1, h2, h3, h4⟩ := rowVal_inj hpq
  obtain ⟨hn, h⟩ := h
  refine ⟨h1.trans hn, ?_⟩
  rcases h with ⟨g1, g2, g3⟩ | ⟨hnl, cs, ty, g1, g2, g3, g5, g6⟩
  · exact .inl ⟨h3.trans g1, g2, h2.trans g3⟩
  · have hp := h3.trans hnl
    obtain ⟨k1, k2⟩ := h4 hp
    exact .inr ⟨hp, cs, ty, by rw [k1]; exact g1, by rw [h2]; exact g2, by rw [h2]; exact g3, by rw [k2, h2]; exact g5, by rw [k2]; exact g6⟩

/-- A block that is no more the state's becomes it again. -/
theorem SimB.revive (hB : SimB μ S w bl nb) {k : Nat} {p : At} {x : Blk} (hk : μ k = some p) (hdead : ∀ y, lk bl k = some y → y = .dead) (hp : p.nl = false → p.b < w.heap.size ∧ ¬ S p.b ∧ ¬ Liv μ bl p.b) (hd : x ≠ .dead) (hx : RB μ S w k x) :
    SimB μ S w ((k, x) :: bl) nb ∧ ∀ b, Liv μ ((k, x) :: bl) b ↔ Liv μ bl b ∨ (p.nl = false ∧ p.b = b) := by
  have hliv : ∀ b, Liv μ ((k, x) :: bl) b ↔ Liv μ bl b ∨ (p.nl = false ∧ p.b = b) := by
    intro b
    constructor
    · rintro ⟨j, y, q, hj, hy, hq, hn, hb⟩
      rw [lk_cons] at hj
      by_cases hkn : k = j
      · subst hkn; rw [hk] at hq; cases hq; exact .inr ⟨hn, hb⟩
      · rw [if_neg hkn] at hj; exact .inl ⟨j, y, q, hj, hy, hq, hn, hb⟩
    · rintro (⟨j, y, q, hj, hy, hq, hn, hb⟩ | ⟨hn, hb⟩)
      · have hne : k ≠ j := fun e => by subst e; exact hy (hdead y hj)
        exact ⟨j, y, q, by rw [lk_cons, if_neg hne]; exact hj, hy, hq, hn, hb⟩
      · exact ⟨k, x, p, by rw [lk_cons, if_pos rfl], hd, hk, hn, hb⟩
  refine ⟨⟨hB.dom, ?_, ?_, ?_, hB.sb, hB.gl⟩, hliv⟩
  · intro j y hj
    rw [lk_cons] at hj
    by_cases hkn : k = j
    · rw [if_pos hkn] at hj; cases hj; subst hkn; exact hx
    · rw [if_neg hkn] at hj; exact hB.blk j y hj
  · intro b hb
    rcases (hliv b).1 hb with h1 | ⟨hn, rfl⟩
    · exact hB.old b h1
    · exact ⟨(hp hn).1, (hp hn).2.1⟩
  · intro j j' y y' q q' hj hj' hy hy' hq hq' hn hn' hbb
    rw [lk_cons] at hj hj'
    by_cases h1 : k = j <;> by_cases h2 : k = j'
    · exact h1.symm.trans h2
    · subst h1; rw [hk] at hq; cases hq
      rw [if_neg h2] at hj'
      exact absurd ⟨j', y', q', hj', hy', hq', hn', hbb.symm⟩ (hp hn).2.2
    · subst h2; rw [hk] at hq'; cases hq'
      rw [if_neg h1] at hj
      exact absurd ⟨j, y, q, hj, hy, hq, hn, hbb⟩ (hp hn').2.2
    · rw [if_neg h1] at hj; rw [if_neg h2] at hj'
      exact hB.inj j j' y y' q q' hj hj' hy hy' hq hq' hn hn' hbb

theorem Fs.boxed_tail {p : Sh × Bool} {r : Fs} {u v : AV} (h : Fs.boxed bl (p :: r) (.cons u v) = true) : Fs.boxed bl r v = true := by
  obtain ⟨s, fl⟩ := p
  cases fl with
  | true => cases s <;> first | exact h | (rename_i s'; cases s' <;> exact h)
  | false =>
    cases s with
    | box s' =>
      cases s' with
      | dat t =>
        cases u with
        | ptr k off =>
          have h : (match lk bl k with
            | some (.box (.dat _ _)) => Fs.boxed bl r v
            | _ => false) = true := h
          split at h
          · exact h
          · cases h
        | _ => cases h
      | _ => exact h
    | _ => exact h

/-- The owned blocks of what is not given back stay the state's. -/
theorem Sh.get_still : ∀ {s : Sh} {v : AV} {g : Got s.ty}, s.still = true → Sh.get bl s v = some g → g.refs = [] := by
  intro s
  induction s with
  | dat t => intro v g hs h; rw [Sh.get] at h; obtain ⟨p, _, h⟩ := ob_some h; cases h; rfl
  | own e => intro v g hs; cases hs
  | box s ih => intro v g hs; cases hs
  | map a b => intro v g hs; cases hs
  | fn f c ih =>
    intro v g hs h
    cases v with
    | fn f' cap => rw [Sh.get] at h; obtain ⟨_, h⟩ := condT h; exact ih hs h
    | _ => simp [Sh.get] at h
  | nilfn => intro v g hs h; cases v with | nilfn => rw [Sh.get] at h; cases h; rfl | _ => simp [Sh.get] at h
  | imm t =>
    intro v g hs h
    cases v with
    | iptr u x =>
      rw [Sh.get] at h
      split at h
      · cases h; rfl
      · cases h
    | _ => simp [Sh.get] at h
  | pr a b iha ihb =>
    intro v g hs h
    have hs : (a.still && b.still) = true := hs
    rw [Bool.and_eq_true] at hs
    rw [Sh.get] at h
    obtain ⟨p, _, h⟩ := ob_some h
    obtain ⟨g1, h1, h⟩ := ob_some h
    obtain ⟨g2, h2, h⟩ := ob_some h
    cases h
    simp only [sapp_eq, iha hs.1 h1, ihb hs.2 h2, List.append_nil]
  | cons a b iha ihb =>
    intro v g hs h
    have hs : (a.still && b.still) = true := hs
    rw [Bool.and_eq_true] at hs
    cases v with
    | cons u1 u2 =>
      rw [Sh.get] at h
      obtain ⟨g1, h1, h⟩ := ob_some h
      obtain ⟨g2, h2, h⟩ := ob_some h
      cases h
      simp only [sapp_eq, iha hs.1 h1, ihb hs.2 h2, List.append_nil]
    | _ => simp [Sh.get] at h
  | un =>
    intro v g hs h
    cases v with
    | un => rw [Sh.get] at h; cases h; rfl
    | dat t x => cases t with | un => rw [Sh.get] at h; cases h; rfl | _ => simp [Sh.get] at h
    | _ => simp [Sh.get] at h
  | nix => intro v g hs; cases hs

theorem Fs.stay (hB : SimB μ S w bl nb) {S' : Nat → Prop} {w' : World} : ∀ {l : Fs} {args : AV} {vs : List Value} {g : Got l.ty} {bU : List Nat}, Fs.sane l = true → Fs.boxed bl l args = true → Fs.get bl l args = some g → RX μ S w true args vs →
    FsU S' w' l g.x vs bU → ∀ k ∈ g.refs, k ∈ Fs.lent bl l args ∨
      ∃ y p, lk bl k = some y ∧ μ k = some p ∧ RB μ S' w' k y ∧ (l.allFlat = true → ∀ S'', RB μ S'' w' k y) ∧ (p.nl = false → p.b ∈ bU)
  | [], args, vs, g, bU, hs, hbx, hg, hr, hf => by
    intro k hk
    cases args with
    | un => simp [Fs.get, Sh.get] at hg; subst hg; simp at hk
    | dat t x => exact hr.elim
    | _ => simp [Fs.get, Sh.get] at hg
  | (s, fl) :: r, args, vs, g, bU, hs, hbx, hg, hr, hf => by
    cases args with
    | cons u v =>
      have hg : Sh.get bl (.cons s (Fs.sh r)) (.cons u v) = some g := hg
      rw [Sh.get] at hg
      obtain ⟨g1, hg1, hg⟩ := ob_some hg
      obtain ⟨g2, hg2, hg⟩ := ob_some hg
      cases hg
      obtain ⟨d, dr, e, hd, hr'⟩ := hr
      subst e
      intro k hk
      simp only [sapp_eq, List.mem_append] at hk
      cases fl with
      | true =>
        obtain ⟨d', vr, e1, h2⟩ := hf
        cases e1
        have hs' : Fs.sane r = true := hs
        rcases hk with hk | hk
        · left
          simp only [Fs.lent, hg1, sapp_eq, List.mem_append]
          exact .inl hk
        · rcases Fs.stay hB hs' (Fs.boxed_tail hbx) hg2 hr' h2 k hk with h | ⟨y, p, i1, i2, i3, i4, i5⟩
          · left
            simp only [Fs.lent, hg1, sapp_eq, List.mem_append]
            exact .inr h
          · refine .inr ⟨y, p, i1, i2, i3, fun hfl => i4 ?_, i5⟩
            cases s <;> simp_all [Fs.allFlat]
      | false =>
        obtain ⟨d', vr, b1, b2, e1, e2, h1, h2⟩ := hf
        cases e1
        have hs0 : s.stay = true ∧ Fs.sane r = true := condT (o := some ()) (r := ()) (by
          have : cond s.stay (Fs.sane r) false = true := hs
          cases h1 : s.stay <;> rw [h1] at this <;> simp_all) |>.elim fun a _ => ⟨a, by
            have : cond s.stay (Fs.sane r) false = true := hs
            rw [a] at this; exact this⟩
        rcases hk with hk | hk
        · right
          cases s with
          | own e =>
            cases u with
            | own j =>
              rw [Sh.get] at hg1
              split at hg1
              · rename_i e' xs hkb
                split at hg1
                · rename_i hsame _
                  cases hsame with
                  | mk hsame =>
                  cases hsame
                  cases hg1
                  simp only [List.mem_singleton] at hk
                  subst hk
                  obtain ⟨p, hp, e3⟩ := hd
                  simp only [List.cons.injEq, and_true] at e3
                  subst e3
                  obtain ⟨q, e4, hq, e5⟩ := h1
                  simp only [List.cons.injEq, and_true] at e4
                  have hrow : RowAt S' w' p e xs := RowAt.congr e4 hq
                  refine ⟨_, p, hkb, hp, ⟨p, hp, hrow.1, hrow.2⟩, fun hfl S'' => ?_, fun hnl => ?_⟩
                  · have hfe : e.flat = true := by
                      have : (e.flat && Fs.allFlat r) = true := hfl
                      rw [Bool.and_eq_true] at this; exact this.1
                    refine ⟨p, hp, hrow.1, ?_⟩
                    rcases hrow.2 with h | ⟨hnl, cs, ty, k1, k2, k3, k4, k5⟩
                    · exact .inl h
                    · exact .inr ⟨hnl, cs, ty, k1, k2, k3, k4, k5.imp fun x c h => Rep.flat hfe h⟩
                  · obtain ⟨_, _, k3, k4⟩ := rowVal_inj e4
                    rw [e2, e5, ← k3, hnl, (k4 hnl).1]
                    simp
                · cases hg1
              · cases hg1
            | nil => rw [Sh.get] at hg1; cases hg1; simp at hk
            | _ => simp [Sh.get] at hg1
          | map kt vt =>
            cases u with
            | mp j =>
              rw [Sh.get] at hg1
              split at hg1
              · rename_i kt' vt' es hkb
                split at hg1
                · rename_i hsame _
                  cases hsame with
                  | mk hsame =>
                  cases hsame
                  cases hg1
                  simp only [List.mem_singleton] at hk
                  subst hk
                  obtain ⟨p, hp, e3⟩ := hd
                  simp only [List.cons.injEq, and_true] at e3
                  subst e3
                  obtain ⟨b, e4, ⟨ents, clock, k1, k2⟩, e5⟩ := h1
                  simp only [List.cons.injEq, and_true, Value.map.injEq, Option.some.injEq] at e4
                  subst e4
                  obtain ⟨q, hq, hnl, _⟩ := hB.blk k _ hkb
                  rw [hp] at hq; cases hq
                  refine ⟨_, p, hkb, hp, ⟨p, hp, hnl, ents, clock, k1, k2⟩, fun hfl S'' => ?_, fun _ => ?_⟩
                  · have hfe : (kt.flat && vt.flat) = true := by
                      have : ((kt.flat && vt.flat) && Fs.allFlat r) = true := hfl
                      rw [Bool.and_eq_true] at this; exact this.1
                    rw [Bool.and_eq_true] at hfe
                    exact ⟨p, hp, hnl, ents, clock, k1, REnts.flat hfe.1 hfe.2 k2.1, k2.2⟩
                  · rw [e2, e5]; simp
                · cases hg1
              · cases hg1
            | _ => simp [Sh.get] at hg1
          | box s' =>
            cases s' with
            | dat t =>
              cases u with
              | ptr j off =>
                rw [Sh.get] at hg1
                obtain ⟨hoff, hg1⟩ := condT hg1
                have hbx0 : (match lk bl j with | some (.box (.dat _ _)) => Fs.boxed bl r v | _ => false) = true := hbx
                split at hbx0
                · rename_i u y hkb
                  rw [hkb] at hg1
                  obtain ⟨g3, hg3, hg1⟩ := ob_some hg1
                  cases hg1
                  rw [Sh.get] at hg3
                  obtain ⟨q, hq, hg3⟩ := ob_some hg3
                  cases hg3
                  simp only [List.mem_cons, List.not_mem_nil, or_false] at hk
                  subst hk
                  have hsame : ∃ e : u = t, q.1 = Ty.as e y := by
                    unfold AV.take at hq
                    split at hq
                    · rename_i hsame _; cases hq; exact ⟨hsame.out, rfl⟩
                    · cases hq
                  obtain ⟨e, hqy⟩ := hsame
                  subst e
                  obtain ⟨p, hp, e3⟩ := hd
                  simp only [List.cons.injEq, and_true] at e3
                  obtain ⟨b, cs', ty, bs', e4, hheap, ⟨hrep, hbs'⟩, e5⟩ := h1
                  rw [e3] at e4
                  simp only [List.cons.injEq, and_true, Value.pointer.injEq, Option.some.injEq, Addr.mk.injEq] at e4
                  obtain ⟨e4, _⟩ := e4
                  obtain ⟨p', hp', hnl, _⟩ := hB.blk k _ hkb
                  rw [hp] at hp'; cases hp'
                  have hrep : Rep S' w' u q.1 cs' := hrep
                  rw [hqy] at hrep
                  refine ⟨_, p, hkb, hp, ⟨p, hp, hnl, cs', ty, by rw [e4]; exact hheap, hrep⟩, fun hfl S'' => ?_, fun _ => ?_⟩
                  · have hfe : u.flat = true := by
                      have : (u.flat && Fs.allFlat r) = true := hfl
                      rw [Bool.and_eq_true] at this; exact this.1
                    exact ⟨p, hp, hnl, cs', ty, by rw [e4]; exact hheap, Rep.flat hfe hrep⟩
                  · rw [e2, e5, e4]; simp
                · cases hbx0
              | _ => simp [Sh.get] at hg1
            | _ => cases hs0.1
          | _ => rw [Sh.get_still hs0.1 hg1] at hk; simp at hk
        · rcases Fs.stay hB hs0.2 (Fs.boxed_tail hbx) hg2 hr' h2 k hk with h | ⟨y, p, i1, i2, i3, i4, i5⟩
          · exact .inl h
          · refine .inr ⟨y, p, i1, i2, i3, fun hfl => i4 ?_, fun hnl => ?_⟩
            · cases s <;> simp_all [Fs.allFlat]
            · rw [e2]; simp [i5 hnl]
    | _ => simp [Fs.get, Sh.get] at hg

end
end Go.Pv

/- The state behind a call. -/
set_option linter.unusedVariables false
set_option linter.unusedSimpArgs false
namespace Go.Pv

section
variable {μ : Nat → Option At} {S : Nat → Prop} {w : World} {bl : List (Nat × Blk)} {nb : Nat}

theorem Fs.lent_sub : ∀ {l : Fs} {args : AV} {g : Got l.ty}, Fs.get bl l args = some g → (Fs.lent bl l args).Sublist g.refs
  | [], args, g, h => by
    cases args <;> exact List.nil_sublist _
  | (s, fl) :: r, args, g, h => by
    cases args with
    | cons u v =>
      have h : Sh.get bl (.cons s (Fs.sh r)) (.cons u v) = some g := h
      rw [Sh.get] at h
      obtain ⟨g1, h1, h⟩ := ob_some h
      obtain ⟨g2, h2, h⟩ := ob_some h
      cases h
      have ih := Fs.lent_sub (l := r) h2
      cases fl with
      | true => simp only [Fs.lent, h1, sapp_eq]; exact ih.append_left _
      | false => simp only [Fs.lent, sapp_eq]; exact ih.trans (List.sublist_append_right _ _)
    | _ => simp [Fs.get, Sh.get] at h

/-- The top keys of a reference. -/
def Sh.tops : Sh → AV → List Nat
  | .own _, .own k => [k]
  | .box _, .ptr k _ => [k]
  | .map _ _, .mp k => [k]
  | .fn _ c, .fn _ cap => Sh.tops c cap
  | .cons a b, .cons u v => Sh.tops a u ++ Sh.tops b v
  | _, _ => []
/-- The top keys of what is given back. -/
def Fs.tops : Fs → AV → List Nat
  | (s, true) :: r, .cons u v => Sh.tops s u ++ Fs.tops r v
  | (_, false) :: r, .cons _ v => Fs.tops r v
  | _, _ => []

theorem Sh.tops_sub : ∀ {s : Sh} {u : AV} {g : Got s.ty}, Sh.get bl s u = some g → (Sh.tops s u).Sublist g.refs := by
  intro s
  induction s with
  | own e =>
    intro u g h
    cases u with
    | own k =>
      rw [Sh.get] at h
      split at h
      · split at h
        · cases h; exact .refl _
        · cases h
      · cases h
    | _ => exact List.nil_sublist _
  | box s _ =>
    intro u g h
    cases u with
    | ptr k off =>
      rw [Sh.get] at h
      obtain ⟨_, h⟩ := condT h
      split at h
      · obtain ⟨g3, _, h⟩ := ob_some h
        cases h
        exact (List.nil_sublist _).cons_cons _
      · cases h
    | _ => exact List.nil_sublist _
  | map kt vt =>
    intro u g h
    cases u with
    | mp k =>
      rw [Sh.get] at h
      split at h
      · split at h
        · cases h; exact .refl _
        · cases h
      · cases h
    | _ => exact List.nil_sublist _
  | fn f c ih =>
    intro u g h
    cases u with
    | fn g' cap =>
      rw [Sh.get] at h
      obtain ⟨_, h⟩ := condT h
      exact ih h
    | _ => exact List.nil_sublist _
  | cons a b iha ihb =>
    intro u g h
    cases u with
    | cons u v =>
      rw [Sh.get] at h
      obtain ⟨g1, h1, h⟩ := ob_some h
      obtain ⟨g2, h2, h⟩ := ob_some h
      cases h
      simp only [sapp_eq]
      exact (iha h1).append (ihb h2)
    | _ => exact List.nil_sublist _
  | _ => intro u g h; cases u <;> exact List.nil_sublist _

theorem Fs.tops_sub : ∀ {l : Fs} {args : AV} {g : Got l.ty}, Fs.get bl l args = some g → (Fs.tops l args).Sublist (Fs.lent bl l args)
  | [], args, g, h => by
    cases args <;> exact List.nil_sublist _
  | (s, fl) :: r, args, g, h => by
    cases args with
    | cons u v =>
      have h : Sh.get bl (.cons s (Fs.sh r)) (.cons u v) = some g := h
      rw [Sh.get] at h
      obtain ⟨g1, h1, h⟩ := ob_some h
      obtain ⟨g2, h2, h⟩ := ob_some h
      cases h
      have ih := Fs.tops_sub (l := r) h2
      cases fl with
      | false => simp only [Fs.lent, Fs.tops]; exact ih
      | true =>
        simp only [Fs.lent, Fs.tops, h1, sapp_eq]
        exact (Sh.tops_sub h1).append ih
    | _ => simp [Fs.get, Sh.get] at h

theorem sub_cond {α : Type} {S S' : α → Prop} {fl : Bool} {b : α} (h : ∀ b, S b → S' b) (hb : S b) : (cond fl S S') b := by
  cases fl with
  | true => exact hb
  | false => exact h b hb
theorem cond_sub {α : Type} {S S' : α → Prop} {fl : Bool} {b : α} (h : ∀ b, S b → S' b) (hb : (cond fl S S') b) : S' b := by
  cases fl with
  | true => exact h b hb
  | false => exact hb

/-- Behind a call (or a loop): what was not given stays. -/
theorem Fs.behind (hB : SimB μ S w bl nb) {l : Fs} {args : AV} {vs : List Value} {g : Got l.ty} (hsane : Fs.sane l = true) (hbx : Fs.boxed bl l args = true) (hg : Fs.get bl l args = some g) (hr : RX μ S w true args vs) (hap : apartK g.refs g.gone = true)
    (hkr : Keys μ bl g.refs) (hkg : Keys μ bl g.gone) (flat : Bool) (hflat : flat = true → l.allFlat = true) {S' : Nat → Prop} {w' : World} {bs' bU : List Nat}
    (hran : Ran (fun b => S b ∨ Of μ bl g.gone b) w (blocksOf μ g.refs) S' w' bs') (hf : FsU S' w' l g.x vs bU) (hbU : ∀ b ∈ bU, b ∈ bs') :
    SimB μ (cond flat S S') w' (kill (sapp (Fs.lent bl l args) (cond flat [] g.gone)) bl) nb ∧
      (∀ b, Liv μ (kill (sapp (Fs.lent bl l args) (cond flat [] g.gone)) bl) b → Liv μ bl b ∧ (b ∈ blocksOf μ g.refs → b ∈ bU)) ∧
      (∀ k ∈ Fs.lent bl l args, lk (kill (sapp (Fs.lent bl l args) (cond flat [] g.gone)) bl) k = some .dead) := by
  obtain ⟨hnd, hdis⟩ := apartK_ok hap
  have hS : ∀ b, S b → S' b := fun b hb => hran.sub b (.inl hb)
  have hoff : ∀ b, Of μ bl g.refs b → Liv μ bl b := fun b ⟨k, _, x, p, h1, h2, h3, h4, h5⟩ => ⟨k, x, p, h1, h2, h3, h4, h5⟩
  have hSsame : ∀ b, S b → w'.heap[b]? = w.heap[b]? := fun b hb => hran.same b (hB.sb b hb) (fun hin => (hB.old b (hoff b ((mem_blocksOf hkr).1 hin))).2 hb)
  have hstay := Fs.stay hB (S' := S') (w' := w') hsane hbx hg hr hf
  -- of a live key
  have live : ∀ {k x p}, k ∉ sapp (Fs.lent bl l args) (cond flat [] g.gone) → lk bl k = some x → x ≠ .dead → μ k = some p → p.nl = false → p.b ∈ blocksOf μ g.refs → p.b ∈ bU ∧ k ∈ g.refs := by
    intro k x p hk hx hd hp hnl hin
    obtain ⟨j, hj, y, q, h1, h2, h3, h4, h5⟩ := (mem_blocksOf hkr).1 hin
    have := hB.inj k j x y p q hx h1 hd h2 hp h3 hnl h4 h5.symm
    subst this
    rcases hstay k hj with h | ⟨y', p', i1, i2, _, _, i5⟩
    · exact absurd (by rw [sapp_eq, List.mem_append]; exact .inl h) hk
    · rw [hp] at i2; cases i2
      exact ⟨i5 hnl, hj⟩
  have hliv : ∀ b, Liv μ (kill (sapp (Fs.lent bl l args) (cond flat [] g.gone)) bl) b → Liv μ bl b ∧ (b ∈ blocksOf μ g.refs → b ∈ bU) := by
    rintro b ⟨k, x, p, hk, hx, hp, hn, rfl⟩
    rcases lk_kill hk with ⟨h1, _⟩ | ⟨h1, h2⟩
    · exact absurd h1 hx
    · exact ⟨⟨k, x, p, h2, hx, hp, hn, rfl⟩, fun hin => (live h1 h2 hx hp hn hin).1⟩
  refine ⟨⟨hB.dom, ?_, ?_, ?_, ?_, hB.gl.move (fun b hb => sub_cond hS hb) hSsame⟩, hliv, ?_⟩
  · intro k x hk
    by_cases hd : x = .dead
    · subst hd; trivial
    rcases lk_kill hk with ⟨h1, _⟩ | ⟨h1, h2⟩
    · exact absurd h1 hd
    by_cases hin : k ∈ g.refs
    · rcases hstay k hin with h | ⟨y, p, i1, i2, i3, i4, i5⟩
      · exact absurd (by rw [sapp_eq, List.mem_append]; exact .inl h) h1
      · rw [h2] at i1; cases i1
        cases hfl : flat with
        | true => exact i4 (hflat hfl) _
        | false => exact i3
    · refine RB.move (fun _ _ h => h) (fun b hb => sub_cond hS hb) hSsame (fun p hp hnl _ => ?_) (hB.blk k x h2)
      refine hran.same _ (hB.old _ ⟨k, x, p, h2, hd, hp, hnl, rfl⟩).1 (fun hb => hin (live h1 h2 hd hp hnl hb).2)
  · intro b hb
    obtain ⟨h1, h2⟩ := hliv b hb
    obtain ⟨h3, h4⟩ := hB.old b h1
    refine ⟨Nat.lt_of_lt_of_le h3 hran.size, fun hs => ?_⟩
    cases hfl : flat with
    | true => rw [hfl] at hs; exact h4 hs
    | false =>
      rw [hfl] at hs hb
      have hs : S' b := hs
      rcases hran.new b hs with (h | h) | h | h
      · exact h4 h
      · obtain ⟨k, x, p, hk, hx, hp, hn, e⟩ := hb
        rcases lk_kill hk with ⟨h5, _⟩ | ⟨h5, h6⟩
        · exact hx h5
        · obtain ⟨j, hj, y, q, g1, g2, g3, g4, g5⟩ := h
          have := hB.inj k j x y p q h6 g1 hx g2 hp g3 hn g4 (e.trans g5.symm)
          subst this
          exact h5 (by rw [sapp_eq, List.mem_append]; exact .inr hj)
      · omega
      · exact (hran.old b (hbU b (h2 h))).2 hs
  · intro k k' x x' p p' hk hk' hx hx' hp hp' hn hn' hb
    rcases lk_kill hk with ⟨h1, _⟩ | ⟨h1, h2⟩
    · exact absurd h1 hx
    rcases lk_kill hk' with ⟨h3, _⟩ | ⟨h3, h4⟩
    · exact absurd h3 hx'
    exact hB.inj k k' x x' p p' h2 h4 hx hx' hp hp' hn hn' hb
  · intro b hb
    exact hran.sb b (cond_sub hS hb)
  · intro k hk
    have : ∀ (ks : List Nat), k ∈ ks → lk (kill ks bl) k = some .dead := by
      intro ks
      induction ks with
      | nil => intro h; simp at h
      | cons j r ih =>
        intro h
        rw [kill, lk_cons]
        by_cases hjk : j = k
        · rw [if_pos hjk]
        · rw [if_neg hjk]
          rcases List.mem_cons.1 h with h | h
          · exact absurd h.symm hjk
          · exact ih h
    exact this _ (by rw [sapp_eq, List.mem_append]; exact .inl hk)

/-- What has been made, old keys made new among it. -/
structure MadeX (μ : Nat → Option At) (S : Nat → Prop) (w : World) (st : St) (μ1 : Nat → Option At) (st1 : St) (bs : List Nat) : Prop where
  sim : SimB μ1 S w st1.bl st1.nb
  mu : ∀ k p, μ k = some p → μ1 k = some p
  liv : ∀ b, Liv μ1 st1.bl b ↔ Liv μ st.bl b ∨ b ∈ bs
  nb : st.nb ≤ st1.nb
  fr : st1.fr = st.fr
  ext : ∃ ε, st1.bl = ε ++ st.bl
  low : ∀ k, k < st.nb → μ1 k = μ k

theorem Made.x {st st1 : St} {μ1 : Nat → Option At} {bs : List Nat} (h : Made μ S w st μ1 st1 bs) : MadeX μ S w st μ1 st1 bs :=
  ⟨h.sim, h.mu, h.liv, h.nb, h.fr, (let ⟨ε, e, _⟩ := h.ext; ⟨ε, e⟩), h.low⟩

theorem MadeX.trans {st st1 st2 : St} {μ1 μ2 : Nat → Option At} {b1 b2 : List Nat} (h : MadeX μ S w st μ1 st1 b1) (k : MadeX μ1 S w st1 μ2 st2 b2) : MadeX μ S w st μ2 st2 (b1 ++ b2) where
  sim := k.sim
  mu i p hp := k.mu i p (h.mu i p hp)
  liv b := by rw [k.liv, h.liv, List.mem_append, or_assoc]
  nb := Nat.le_trans h.nb k.nb
  fr := k.fr.trans h.fr
  ext := by
    obtain ⟨ε, e1⟩ := h.ext
    obtain ⟨δ, e2⟩ := k.ext
    exact ⟨δ ++ ε, by rw [e2, e1, List.append_assoc]⟩
  low i hi := (k.low i (Nat.lt_of_lt_of_le hi h.nb)).trans (h.low i hi)

theorem MadeX.same {st st1 : St} {μ1 : Nat → Option At} {b1 b2 : List Nat} (h : MadeX μ S w st μ1 st1 b1) (hb : ∀ b, b ∈ b1 ↔ b ∈ b2) : MadeX μ S w st μ1 st1 b2 :=
  ⟨h.sim, h.mu, fun b => by rw [h.liv, hb], h.nb, h.fr, h.ext, h.low⟩

theorem MadeX.revive {st : St} (hB : SimB μ S w st.bl st.nb) {k : Nat} {p : At} {x : Blk} (hk : μ k = some p) (hdead : ∀ y, lk st.bl k = some y → y = .dead) (hp : p.nl = false → p.b < w.heap.size ∧ ¬ S p.b ∧ ¬ Liv μ st.bl p.b) (hd : x ≠ .dead) (hx : RB μ S w k x) :
    MadeX μ S w st μ ⟨st.fr, (k, x) :: st.bl, st.nb⟩ (cond p.nl [] [p.b]) := by
  obtain ⟨h1, h2⟩ := hB.revive hk hdead hp hd hx
  refine ⟨h1, fun _ _ h => h, fun b => ?_, Nat.le_refl _, rfl, ⟨[(k, x)], rfl⟩, fun _ _ => rfl⟩
  rw [h2]
  cases p.nl with
  | true => simp
  | false => simp [eq_comm]

/-- Of the keys of variables and maps: their places. -/
def Sh.topsOk (μ : Nat → Option At) : Sh → AV → Prop
  | .box _, .ptr k _ => ∀ p, μ k = some p → p.nl = false
  | .map _ _, .mp k => ∀ p, μ k = some p → p.nl = false
  | .fn _ c, .fn _ cap => Sh.topsOk μ c cap
  | .cons a b, .cons u v => Sh.topsOk μ a u ∧ Sh.topsOk μ b v
  | _, _ => True

theorem Sh.topsOk_move {μ1 : Nat → Option At} (h : ∀ k p, μ k = some p → μ1 k = some p) : ∀ {s : Sh} {u : AV}, (∀ k ∈ Sh.tops s u, ∃ p, μ k = some p) → Sh.topsOk μ s u → Sh.topsOk μ1 s u := by
  have at1 : ∀ {k : Nat}, (∃ p, μ k = some p) → (∀ p, μ k = some p → p.nl = false) → ∀ p, μ1 k = some p → p.nl = false := by
    rintro k ⟨q, hq⟩ h1 p hp
    rw [h k q hq] at hp
    have e : q = p := by simpa using hp
    subst e
    exact h1 q hq
  intro s
  induction s with
  | box s _ =>
    intro u hk hq
    cases u with
    | ptr k off => exact at1 (hk k (by simp [Sh.tops])) hq
    | _ => trivial
  | map kt vt =>
    intro u hk hq
    cases u with
    | mp k => exact at1 (hk k (by simp [Sh.tops])) hq
    | _ => trivial
  | fn f c ih =>
    intro u hk hq
    cases u with
    | fn g cap => exact ih hk hq
    | _ => trivial
  | cons a b iha ihb =>
    intro u hk hq
    cases u with
    | cons u v => exact ⟨iha (fun k hin => hk k (List.mem_append_left _ hin)) hq.1, ihb (fun k hin => hk k (List.mem_append_right _ hin)) hq.2⟩
    | _ => trivial
  | _ => intro u hk hq; cases u <;> trivial

theorem Sh.topsOk_of (hB : SimB μ S w bl nb) : ∀ {s : Sh} {u : AV} {g : Got s.ty}, Sh.get bl s u = some g → Sh.topsOk μ s u := by
  intro s
  induction s with
  | box s _ =>
    intro u g h
    cases u with
    | ptr k off =>
      rw [Sh.get] at h
      obtain ⟨_, h⟩ := condT h
      split at h
      · rename_i hkb
        obtain ⟨q, hq, hnl, _⟩ := hB.blk _ _ hkb
        intro p hp
        rw [hp] at hq; cases hq; exact hnl
      · cases h
    | _ => trivial
  | map kt vt =>
    intro u g h
    cases u with
    | mp k =>
      rw [Sh.get] at h
      split at h
      · rename_i hkb
        obtain ⟨q, hq, hnl, _⟩ := hB.blk _ _ hkb
        intro p hp
        rw [hp] at hq; cases hq; exact hnl
      · cases h
    | _ => trivial
  | fn f c ih =>
    intro u g h
    cases u with
    | fn g' cap =>
      rw [Sh.get] at h
      obtain ⟨_, h⟩ := condT h
      exact ih h
    | _ => trivial
  | cons a b iha ihb =>
    intro u g h
    cases u with
    | cons u v =>
      rw [Sh.get] at h
      obtain ⟨g1, h1, h⟩ := ob_some h
      obtain ⟨g2, h2, h⟩ := ob_some h
      exact ⟨iha h1, ihb h2⟩
    | _ => trivial
  | _ => intro u g h; cases u <;> trivial

/-- One reference's data are laid anew. -/
theorem Sh.put_okX : ∀ {s : Sh} {gl : Bool} {μ : Nat → Option At} {u : AV} {ds : List Value} {x : s.ty.den} {bs : List Nat} {st st1 : St}, Sh.put s u x st = some st1 → RX μ S w gl u ds → ShX S w gl s x ds bs → SimB μ S w st.bl st.nb → bs.Nodup →
    (∀ b ∈ bs, b < w.heap.size ∧ ¬ S b ∧ ¬ Liv μ st.bl b) → (Sh.tops s u).Nodup → (∀ k, k ∈ Sh.tops s u → ∀ y, lk st.bl k = some y → y = .dead) → (∀ k ∈ Sh.tops s u, ∃ p, μ k = some p) → Sh.topsOk μ s u →
    ∃ μ1, MadeX μ S w st μ1 st1 bs ∧ ∀ k, k < st.nb → k ∉ Sh.tops s u → lk st1.bl k = lk st.bl k := by
  intro s
  induction s with
  | own e =>
    intro gl μ u ds x bs st st1 h hu hx hB hn hb ht hdead hk hq
    cases gl with
    | true => exact hx.elim
    | false =>
    cases u with
    | own k =>
      rw [Sh.put] at h; cases h
      obtain ⟨p, hp, rfl⟩ := hu
      obtain ⟨q, e4, hq, e5⟩ := hx
      simp only [List.cons.injEq, and_true] at e4
      have hrow : RowAt S w p e x := RowAt.congr e4 hq
      obtain ⟨_, _, k3, k4⟩ := rowVal_inj e4
      have ebs : bs = cond p.nl [] [p.b] := by
        rw [e5, ← k3]
        cases hnl : p.nl with
        | true => rfl
        | false => rw [(k4 hnl).1]
      refine ⟨μ, ?_, ?_⟩
      · rw [ebs]
        exact MadeX.revive hB hp (hdead k (by simp [Sh.tops])) (fun hnl => hb p.b (by rw [ebs, hnl]; simp)) (by simp) ⟨p, hp, hrow.1, hrow.2⟩
      · intro j _ hj
        rw [lk_cons, if_neg]
        rintro rfl
        exact hj (by simp [Sh.tops])
    | _ => simp [Sh.put] at h
  | box s _ =>
    intro gl μ u ds x bs st st1 h hu hx hB hn hb ht hdead hk hq
    cases gl with
    | true => exact hx.elim
    | false =>
    cases u with
    | ptr k off =>
      rw [Sh.put] at h
      obtain ⟨ho, h⟩ := condT h
      have ho := beq_true ho
      subst ho
      cases h
      obtain ⟨p, hp, rfl⟩ := hu
      obtain ⟨b, cs', ty, bs', e1, h1, h2, e2⟩ := hx
      simp only [List.cons.injEq, and_true, Value.pointer.injEq, Option.some.injEq, Addr.mk.injEq] at e1
      subst e2
      obtain ⟨hn1, hn2⟩ := List.nodup_cons.1 hn
      obtain ⟨μ1, hm, hr, _⟩ := Sh.mk_ok h2 hB hn2 (fun b' hb' => hb b' (by simp [hb']))
      have hb0 := hb b (by simp)
      have hklt := hB.dom k p hp
      obtain ⟨ε, hε, hε2⟩ := hm.ext
      have hlk : ∀ j, j < st.nb → lk (Sh.mk s x st).2.bl j = lk st.bl j := fun j hj => by rw [hε]; exact lk_ext hε2 hj
      -- a variable's place is none of a nil slice
      have hnl : p.nl = false := hq p hp
      have hm2 := MadeX.revive (st := (Sh.mk s x st).2) (x := .box (Sh.mk s x st).1) hm.sim (hm.mu k p hp) (by rw [hlk k hklt]; exact hdead k (by simp [Sh.tops])) (fun _ => by
          rw [e1]
          refine ⟨hb0.1, hb0.2.1, fun hl => ?_⟩
          rcases (hm.liv b).1 hl with h | h
          · exact hb0.2.2 h
          · exact hn1 h) (by simp) ⟨p, hm.mu k p hp, hnl, cs', ty, by rw [e1]; exact h1, hr⟩
      refine ⟨μ1, (hm.x.trans hm2).same (fun b' => ?_), ?_⟩
      · rw [hnl, e1]; simp [or_comm]
      · intro j hj hjk
        rw [lk_cons, if_neg (by rintro rfl; exact hjk (by simp [Sh.tops])), hlk j hj]
    | _ => simp [Sh.put] at h
  | map kt vt =>
    intro gl μ u ds x bs st st1 h hu hx hB hn hb ht hdead hk hq
    cases gl with
    | true => exact hx.elim
    | false =>
    cases u with
    | mp k =>
      rw [Sh.put] at h; cases h
      obtain ⟨p, hp, e1⟩ := hu
      subst e1
      obtain ⟨b, e4, ⟨ents, clock, k1, k2⟩, e5⟩ := hx
      simp only [List.cons.injEq, and_true, Value.map.injEq, Option.some.injEq] at e4
      have hnl : p.nl = false := hq p hp
      refine ⟨μ, ?_, ?_⟩
      · have := MadeX.revive hB hp (x := .map kt vt x) (hdead k (by simp [Sh.tops])) (fun _ => hb p.b (by rw [e5, e4]; simp)) (by simp) ⟨p, hp, hnl, ents, clock, by rw [e4]; exact k1, k2⟩
        rw [hnl, e4] at this
        rw [e5]; exact this
      · intro j _ hj
        rw [lk_cons, if_neg]
        rintro rfl
        exact hj (by simp [Sh.tops])
    | _ => simp [Sh.put] at h
  | fn f c ih =>
    intro gl μ u ds x bs st st1 h hu hx hB hn hb ht hdead hk hq
    cases gl with
    | true => exact hx.elim
    | false =>
    cases u with
    | fn g cap =>
      rw [Sh.put] at h
      obtain ⟨vs, e1, h1, _⟩ := hx
      obtain ⟨vs', e2, h2⟩ := hu
      rw [e1] at e2
      simp only [List.cons.injEq, and_true, Value.func.injEq] at e2
      have e3 : vs = vs' := by simpa using congrArg Array.toList e2.2.2
      subst e3
      exact ih h h2 h1 hB hn hb ht hdead hk hq
    | _ => simp [Sh.put] at h
  | cons a b iha ihb =>
    intro gl μ u ds x bs st st1 h hu hx hB hn hb ht hdead hk hq
    cases gl with
    | false => exact hx.elim
    | true =>
    cases u with
    | cons u v =>
      rw [Sh.put] at h
      obtain ⟨st2, hp1, hp2⟩ := ob_some h
      obtain ⟨d, r, b1, b2, e1, e2, h1, h2⟩ := hx
      obtain ⟨d', r', e', hu1, hr'⟩ := hu
      subst e1 e2
      simp only [List.cons.injEq] at e'
      obtain ⟨rfl, rfl⟩ := e'
      obtain ⟨n1, n2, n3⟩ := List.nodup_append.1 hn
      obtain ⟨t1, t2, t3⟩ := List.nodup_append.1 (show (Sh.tops a u ++ Sh.tops b v).Nodup from ht)
      have first : ∃ μ1, MadeX μ S w st μ1 st2 b1 ∧ ∀ k, k < st.nb → k ∉ Sh.tops a u → lk st2.bl k = lk st.bl k := by
        have go : ∀ {ds : List Value}, RX μ S w false u ds → ShX S w false a x.1 ds b1 → ∃ μ1, MadeX μ S w st μ1 st2 b1 ∧ ∀ k, k < st.nb → k ∉ Sh.tops a u → lk st2.bl k = lk st.bl k := fun g1 g2 =>
          iha hp1 g1 g2 hB n1 (fun b hbb => hb b (by simp [hbb])) t1 (fun k hin => hdead k (List.mem_append_left _ hin)) (fun k hin => hk k (List.mem_append_left _ hin)) hq.1
        have hu1 := RV.of hu1
        cases a with
        | own e => cases u with
          | own k => exact go (hu1.to (by simp) (by simp)) h1
          | _ => simp [Sh.put] at hp1
        | box s => cases u with
          | ptr k off => exact go (hu1.to (by simp) (by simp)) h1
          | _ => simp [Sh.put] at hp1
        | map kt vt => cases u with
          | mp k => exact go (hu1.to (by simp) (by simp)) h1
          | _ => simp [Sh.put] at hp1
        | fn f c => cases u with
          | fn g cap => exact go (hu1.to (by simp) (by simp)) h1
          | _ => simp [Sh.put] at hp1
        | un => cases u with
          | un =>
            rw [Sh.put] at hp1; cases hp1
            obtain ⟨cs, _, _, e⟩ := (show ∃ cs : List Value, d = .agg cs.toArray ∧ ShX S w false .un x.1 cs b1 from h1)
            subst e
            exact ⟨μ, (Made.none hB).x, fun _ _ _ => rfl⟩
          | _ => simp [Sh.put] at hp1
        | cons _ _ => exact (show False from h1).elim
        | _ => cases u <;> simp [Sh.put] at hp1
      obtain ⟨μ1, hm, hl⟩ := first
      have hmr : RX μ1 S w true v r := RX.move hm.mu (fun _ h => h) (fun _ _ => rfl) hr'
      have old : ∀ k ∈ Sh.tops b v, lk st2.bl k = lk st.bl k := fun k hin => by
        obtain ⟨p, hp'⟩ := hk k (List.mem_append_right _ hin)
        exact hl k (hB.dom k p hp') (fun hin' => t3 _ hin' _ hin rfl)
      obtain ⟨μ2, hm2, hl2⟩ := ihb hp2 hmr h2 hm.sim n2 (fun b hbb => ⟨(hb b (by simp [hbb])).1, (hb b (by simp [hbb])).2.1, fun hlv => by
          rcases (hm.liv b).1 hlv with h | h
          · exact (hb b (by simp [hbb])).2.2 h
          · exact n3 _ h _ hbb rfl⟩) t2 (fun k hin y hy => by
          rw [old k hin] at hy
          exact hdead k (List.mem_append_right _ hin) y hy) (fun k hin => by
          obtain ⟨p, hp'⟩ := hk k (List.mem_append_right _ hin)
          exact ⟨p, hm.mu k p hp'⟩) (Sh.topsOk_move hm.mu (fun k hin => hk k (List.mem_append_right _ hin)) hq.2)
      refine ⟨μ2, hm.trans hm2, fun k hkn hkt => ?_⟩
      have hkt : k ∉ Sh.tops a u ++ Sh.tops b v := hkt
      rw [List.mem_append, not_or] at hkt
      rw [hl2 k (Nat.lt_of_lt_of_le hkn hm.nb) hkt.2, hl k hkn hkt.1]
    | _ => simp [Sh.put] at h
  | un =>
    intro gl μ u ds x bs st st1 h hu hx hB hn hb ht hdead hk hq
    cases u with
    | un =>
      rw [Sh.put] at h; cases h
      have : bs = [] := by cases gl with
        | true => exact hx.2
        | false => exact hx.2
      subst this
      exact ⟨μ, (Made.none hB).x, fun _ _ _ => rfl⟩
    | _ => simp [Sh.put] at h
  | _ => intro gl μ u ds x bs st st1 h; cases u <;> simp [Sh.put] at h
theorem Sh.put_ok {s : Sh} {u : AV} {d : Value} {x : s.ty.den} {bs : List Nat} {st st1 : St} (h : Sh.put s u x st = some st1) (hu : RV μ S w u d) (hx : ShV S w s x d bs) (hB : SimB μ S w st.bl st.nb) (hn : bs.Nodup)
    (hb : ∀ b ∈ bs, b < w.heap.size ∧ ¬ S b ∧ ¬ Liv μ st.bl b) (ht : (Sh.tops s u).Nodup) (hdead : ∀ k, k ∈ Sh.tops s u → ∀ y, lk st.bl k = some y → y = .dead) (hk : ∀ k ∈ Sh.tops s u, ∃ p, μ k = some p) (hq : Sh.topsOk μ s u) :
    ∃ μ1, MadeX μ S w st μ1 st1 bs ∧ ∀ k, k < st.nb → k ∉ Sh.tops s u → lk st1.bl k = lk st.bl k := by
  have go : ∀ {ds : List Value}, RX μ S w false u ds → ShX S w false s x ds bs → ∃ μ1, MadeX μ S w st μ1 st1 bs ∧ ∀ k, k < st.nb → k ∉ Sh.tops s u → lk st1.bl k = lk st.bl k := fun g1 g2 =>
    Sh.put_okX h g1 g2 hB hn hb ht hdead hk hq
  cases s with
  | own e => cases u with
    | own k => exact go (hu.to (by simp) (by simp)) hx
    | _ => simp [Sh.put] at h
  | box s => cases u with
    | ptr k off => exact go (hu.to (by simp) (by simp)) hx
    | _ => simp [Sh.put] at h
  | map kt vt => cases u with
    | mp k => exact go (hu.to (by simp) (by simp)) hx
    | _ => simp [Sh.put] at h
  | fn f c => cases u with
    | fn g cap => exact go (hu.to (by simp) (by simp)) hx
    | _ => simp [Sh.put] at h
  | un => cases u with
    | un =>
      rw [Sh.put] at h; cases h
      obtain ⟨cs, _, _, e⟩ := (show ∃ cs : List Value, d = .agg cs.toArray ∧ ShX S w false .un x cs bs from hx)
      subst e
      exact ⟨μ, (Made.none hB).x, fun _ _ _ => rfl⟩
    | _ => simp [Sh.put] at h
  | cons _ _ => exact (show False from hx).elim
  | _ => cases u <;> simp [Sh.put] at h

theorem tops_cons (s : Sh) (u v : AV) (r : Fs) : Fs.tops ((s, true) :: r) (.cons u v) = Sh.tops s u ++ Fs.tops r v := rfl
theorem tops_false (s : Sh) (u v : AV) (r : Fs) : Fs.tops ((s, false) :: r) (.cons u v) = Fs.tops r v := rfl

/-- Of the keys of variables and maps: their places. -/
def TopsOk (μ : Nat → Option At) : Fs → AV → Prop
  | (s, true) :: r, .cons u v => Sh.topsOk μ s u ∧ TopsOk μ r v
  | (_, false) :: r, .cons _ v => TopsOk μ r v
  | _, _ => True

theorem TopsOk.of (hB : SimB μ S w bl nb) : ∀ {l : Fs} {args : AV} {g : Got l.ty}, Fs.get bl l args = some g → TopsOk μ l args
  | [], args, g, h => by cases args <;> trivial
  | (s, fl) :: r, args, g, h => by
    cases args with
    | cons u v =>
      have h : Sh.get bl (.cons s (Fs.sh r)) (.cons u v) = some g := h
      rw [Sh.get] at h
      obtain ⟨g1, h1, h⟩ := ob_some h
      obtain ⟨g2, h2, h⟩ := ob_some h
      have ih := TopsOk.of (l := r) hB h2
      cases fl with
      | false => exact ih
      | true => exact ⟨Sh.topsOk_of hB h1, ih⟩
    | _ => cases fl <;> trivial

theorem TopsOk.move {μ1 : Nat → Option At} (h : ∀ k p, μ k = some p → μ1 k = some p) : ∀ {l : Fs} {args : AV}, (∀ k ∈ Fs.tops l args, ∃ p, μ k = some p) → TopsOk μ l args → TopsOk μ1 l args
  | [], args, _, _ => by cases args <;> trivial
  | (s, fl) :: r, args, hk, ht => by
    cases args with
    | cons u v =>
      cases fl with
      | false => exact TopsOk.move (l := r) (args := v) h (fun k hin => hk k (by rw [tops_false]; exact hin)) ht
      | true => exact ⟨Sh.topsOk_move h (fun k hin => hk k (by rw [tops_cons]; exact List.mem_append_left _ hin)) ht.1, TopsOk.move h (fun k hin => hk k (by rw [tops_cons]; exact List.mem_append_right _ hin)) ht.2⟩
    | _ => cases fl <;> trivial

/-- Of what is given back, only these data count. -/
def FsB (S : Nat → Prop) (w : World) : (l : Fs) → l.back.den → List Value → List Nat → Prop
  | [], _, vs, bF => vs = [] ∧ bF = []
  | (s, true) :: r, m, vs, bF => ∃ v vr b1 b2, vs = v :: vr ∧ bF = b1 ++ b2 ∧ ShV S w s m.1 v b1 ∧ FsB S w r m.2 vr b2
  | (_, false) :: r, m, vs, bF => ∃ v vr, vs = v :: vr ∧ FsB S w r m vr bF

theorem FsX.b : ∀ {l : Fs} {x : l.ty.den} {m : l.back.den} {vs : List Value} {bF bU : List Nat}, FsX S w l (l.merge x m) vs bF bU → FsB S w l m vs bF
  | [], x, m, vs, bF, bU, h => ⟨h.1, h.2.1⟩
  | (s, true) :: r, x, m, vs, bF, bU, h => by
    obtain ⟨v, vr, b1, b2, e1, e2, h1, h2⟩ := h
    exact ⟨v, vr, b1, b2, e1, e2, h1, FsX.b (l := r) h2⟩
  | (s, false) :: r, x, m, vs, bF, bU, h => by
    obtain ⟨v, vr, b1, b2, e1, e2, h1, h2⟩ := h
    exact ⟨v, vr, e1, FsX.b (l := r) h2⟩

/-- All that is given back is laid anew. -/
theorem Fs.put_ok : ∀ {l : Fs} {args : AV} {vs : List Value} {m : l.back.den} {bF : List Nat} {μ : Nat → Option At} {st st1 : St}, Fs.put l args m st = some st1 → RX μ S w true args vs →
    FsB S w l m vs bF → SimB μ S w st.bl st.nb → bF.Nodup → (∀ b ∈ bF, b < w.heap.size ∧ ¬ S b ∧ ¬ Liv μ st.bl b) → (Fs.tops l args).Nodup → (∀ k ∈ Fs.tops l args, ∀ y, lk st.bl k = some y → y = .dead) →
    (∀ k ∈ Fs.tops l args, ∃ p, μ k = some p) → TopsOk μ l args → ∃ μ1, MadeX μ S w st μ1 st1 bF
  | [], args, vs, m, bF, μ, st, st1, h, hr, hf, hB, hn, hb, ht, hd, hk, hq => by
    obtain ⟨_, rfl⟩ := hf
    rw [Fs.put] at h; cases h
    exact ⟨μ, (Made.none hB).x⟩
  | (s, false) :: r, args, vs, m, bF, μ, st, st1, h, hr, hf, hB, hn, hb, ht, hd, hk, hq => by
    cases args with
    | cons u v =>
      obtain ⟨d, vr, e1, h2⟩ := hf
      obtain ⟨d', r', e', _, hr'⟩ := hr
      subst e1
      cases e'
      rw [tops_false] at ht hd hk
      exact Fs.put_ok (l := r) h hr' h2 hB hn hb ht hd hk hq
    | _ => cases h
  | (s, true) :: r, args, vs, m, bF, μ, st, st1, h, hr, hf, hB, hn, hb, ht, hd, hk, hq => by
    cases args with
    | cons u v =>
      obtain ⟨d, vr, b1, b2, e1, e2, h1, h2⟩ := hf
      obtain ⟨d', r', e', hu, hr'⟩ := hr
      subst e1 e2
      simp only [List.cons.injEq] at e'
      obtain ⟨rfl, rfl⟩ := e'
      have h : (ob (Sh.put s u m.1 st) fun st => Fs.put r v m.2 st) = some st1 := h
      obtain ⟨st2, hp, h⟩ := ob_some h
      obtain ⟨n1, n2, n3⟩ := List.nodup_append.1 hn
      rw [tops_cons] at ht hd hk
      obtain ⟨t1, t2, t3⟩ := List.nodup_append.1 ht
      obtain ⟨μ1, hm, hl⟩ := Sh.put_ok hp (RV.of hu) h1 hB n1 (fun b hbb => hb b (by simp [hbb])) t1 (fun k hin => hd k (by simp [hin])) (fun k hin => hk k (by simp [hin])) hq.1
      have hmr : RX μ1 S w true v vr := RX.move hm.mu (fun _ h => h) (fun _ _ => rfl) hr'
      obtain ⟨μ2, hm2⟩ := Fs.put_ok (l := r) h hmr h2 hm.sim n2 (fun b hbb => ⟨(hb b (by simp [hbb])).1, (hb b (by simp [hbb])).2.1, fun hlv => by
          rcases (hm.liv b).1 hlv with h | h
          · exact (hb b (by simp [hbb])).2.2 h
          · exact n3 _ h _ hbb rfl⟩) t2 (fun k hin y hy => by
          obtain ⟨p, hp'⟩ := hk k (by simp [hin])
          rw [hl k (hB.dom k p hp') (fun hin' => t3 _ hin' _ hin rfl)] at hy
          exact hd k (by simp [hin]) y hy) (fun k hin => by
          obtain ⟨p, hp'⟩ := hk k (by simp [hin])
          exact ⟨p, hm.mu k p hp'⟩) (TopsOk.move hm.mu (fun k hin => hk k (by simp [hin])) hq.2)
      exact ⟨μ2, hm.trans hm2⟩
    | _ => cases h

end
end Go.Pv

/- A call of a known function. -/
set_option linter.unusedVariables false
set_option linter.unusedSimpArgs false
namespace Go.Pv

section
variable {P : Program} {μ : Nat → Option At} {S : Nat → Prop} {w : World}

theorem ShR.flat {S' : Nat → Prop} : ∀ {s : Sh} {x : s.ty.den} {v : Value} {bs : List Nat}, s.flat = true → ShR S w s x v bs → ShR S' w s x v bs := by
  intro s x v bs hf h
  have key : ∀ {s : Sh} {x : s.ty.den}, s.flat = true → ShV S w s x v bs → ShV S' w s x v bs := by
    intro s x hf h
    unfold ShV at h ⊢
    cases hg : s.agg with
    | true => rw [hg] at h; obtain ⟨cs, e, h1⟩ := h; exact ⟨cs, e, ShX.flat hf h1⟩
    | false => rw [hg] at h; exact ShX.flat hf h
  cases s with
  | nix => exact h
  | cons a b => obtain ⟨vs, e, h1⟩ := h; exact ⟨vs, e, ShX.flat hf h1⟩
  | dat t => exact key (s := .dat t) hf h
  | own t => exact key (s := .own t) hf h
  | box t => exact key (s := .box t) hf h
  | map t u => exact key (s := .map t u) hf h
  | fn t u => exact key (s := .fn t u) hf h
  | nilfn => exact key (s := .nilfn) hf h
  | imm t => exact key (s := .imm t) hf h
  | pr t u => exact key (s := .pr t u) hf h
  | un => exact key (s := .un) hf h

theorem ShV.flat {S' : Nat → Prop} {s : Sh} {x : s.ty.den} {v : Value} {bs : List Nat} (hf : s.flat = true) (h : ShV S w s x v bs) : ShV S' w s x v bs := by
  unfold ShV at h ⊢
  cases hg : s.agg with
  | true => rw [hg] at h; obtain ⟨cs, e, h1⟩ := h; exact ⟨cs, e, ShX.flat hf h1⟩
  | false => rw [hg] at h; exact ShX.flat hf h

theorem Fs.allFlat_cons {s : Sh} {fl : Bool} {r : Fs} (h : Fs.allFlat ((s, fl) :: r) = true) : Fs.allFlat r = true ∧ ((∃ t, s = .dat t) ∨ s.flat = true) := by
  cases s with
  | dat t => exact ⟨h, .inl ⟨t, rfl⟩⟩
  | _ => exact ⟨(Bool.and_eq_true _ _ ▸ h).2, .inr (Bool.and_eq_true _ _ ▸ h).1⟩


theorem FsB.flat {S' : Nat → Prop} : ∀ {l : Fs} {args : AV} {m : l.back.den} {vs : List Value} {bF : List Nat} {st st1 : St}, l.allFlat = true → Fs.put l args m st = some st1 → FsB S w l m vs bF → FsB S' w l m vs bF
  | [], args, m, vs, bF, st, st1, hf, hp, h => h
  | (s, false) :: r, args, m, vs, bF, st, st1, hf, hp, h => by
    cases args with
    | cons u v =>
      obtain ⟨d, vr, e1, h2⟩ := h
      exact ⟨d, vr, e1, FsB.flat (l := r) (args := v) (st := st) (Fs.allFlat_cons hf).1 hp h2⟩
    | _ => cases hp
  | (s, true) :: r, args, m, vs, bF, st, st1, hf, hp, h => by
    cases args with
    | cons u v =>
      obtain ⟨d, vr, b1, b2, e1, e2, h1, h2⟩ := h
      have hp : (ob (Sh.put s u m.1 st) fun st => Fs.put r v m.2 st) = some st1 := hp
      obtain ⟨st2, hp1, hp2⟩ := ob_some hp
      obtain ⟨f1, f2⟩ := Fs.allFlat_cons hf
      refine ⟨d, vr, b1, b2, e1, e2, ?_, FsB.flat (l := r) (args := v) (st := st2) f1 hp2 h2⟩
      rcases f2 with ⟨t, rfl⟩ | f2
      · simp [Sh.put] at hp1
      · exact ShV.flat f2 h1
    | _ => cases hp

/-- What was given is gone. -/
theorem Keys.left {bl : List (Nat × Blk)} {nb : Nat} (hB : SimB μ S w bl nb) {refs gone : List Nat} (hkr : Keys μ bl refs) (hkg : Keys μ bl gone) {S' : Nat → Prop} {w' : World} {bs' : List Nat}
    (hran : Ran (fun b => S b ∨ Of μ bl gone b) w (blocksOf μ refs) S' w' bs') : SimB μ S' w' (kill (sapp refs gone) bl) nb ∧ ∀ b, Liv μ (kill (sapp refs gone) bl) b → Liv μ bl b ∧ b ∉ blocksOf μ refs := by
  have hoff : ∀ {ks : List Nat} b, Of μ bl ks b → Liv μ bl b := fun b ⟨k, _, x, p, h1, h2, h3, h4, h5⟩ => ⟨k, x, p, h1, h2, h3, h4, h5⟩
  have hS : ∀ b, S b → S' b := fun b hb => hran.sub b (.inl hb)
  have hSsame : ∀ b, S b → w'.heap[b]? = w.heap[b]? := fun b hb => hran.same b (hB.sb b hb) (fun hin => (hB.old b (hoff b ((mem_blocksOf hkr).1 hin))).2 hb)
  have notOf : ∀ {ks : List Nat} {k x p}, k ∉ ks → lk bl k = some x → x ≠ .dead → μ k = some p → p.nl = false → ¬ Of μ bl ks p.b := by
    rintro ks k x p hk hx hd hp hnl ⟨j, hj, y, q, g1, g2, g3, g4, g5⟩
    have := hB.inj k j x y p q hx g1 hd g2 hp g3 hnl g4 g5.symm
    subst this
    exact hk hj
  have hmem : ∀ k, k ∉ sapp refs gone → k ∉ refs ∧ k ∉ gone := fun k hk => by
    rw [sapp_eq, List.mem_append, not_or] at hk; exact hk
  have hliv : ∀ b, Liv μ (kill (sapp refs gone) bl) b → Liv μ bl b ∧ b ∉ blocksOf μ refs ∧ ¬ Of μ bl gone b := by
    rintro b ⟨k, x, p, hk, hx, hp, hn, rfl⟩
    rcases lk_kill hk with ⟨h1, _⟩ | ⟨h1, h2⟩
    · exact absurd h1 hx
    · obtain ⟨m1, m2⟩ := hmem k h1
      exact ⟨⟨k, x, p, h2, hx, hp, hn, rfl⟩, fun hin => notOf m1 h2 hx hp hn ((mem_blocksOf hkr).1 hin), notOf m2 h2 hx hp hn⟩
  refine ⟨⟨hB.dom, ?_, ?_, ?_, hran.sb, hB.gl.move hS hSsame⟩, fun b hb => ⟨(hliv b hb).1, (hliv b hb).2.1⟩⟩
  · intro k x hk
    by_cases hd : x = .dead
    · subst hd; trivial
    rcases lk_kill hk with ⟨h1, _⟩ | ⟨h1, h2⟩
    · exact absurd h1 hd
    obtain ⟨m1, m2⟩ := hmem k h1
    exact RB.move (fun _ _ h => h) hS hSsame (fun p hp hnl _ => hran.same _ (hB.old _ ⟨k, x, p, h2, hd, hp, hnl, rfl⟩).1 (fun hin => notOf m1 h2 hd hp hnl ((mem_blocksOf hkr).1 hin))) (hB.blk k x h2)
  · intro b hb
    obtain ⟨h1, h2, h5⟩ := hliv b hb
    obtain ⟨h3, h4⟩ := hB.old b h1
    refine ⟨Nat.lt_of_lt_of_le h3 hran.size, fun hs => ?_⟩
    rcases hran.new b hs with (h | h) | h | h
    · exact h4 h
    · exact h5 h
    · omega
    · exact h2 h
  · intro k k' x x' p p' hk hk' hx hx' hp hp' hn hn' hb
    rcases lk_kill hk with ⟨h1, _⟩ | ⟨h1, h2⟩
    · exact absurd h1 hx
    rcases lk_kill hk' with ⟨h3, _⟩ | ⟨h3, h4⟩
    · exact absurd h3 hx'
    exact hB.inj k k' x x' p p' h2 h4 hx hx' hp hp' hn hn' hb

/-- A known function is called. -/
theorem callEnt_ok {R : Type} {f : Nat} {st : St} (hB : SimB μ S w st.bl st.nb) {args : AV} {vs : List Value} (hr : RX μ S w true args vs) {dst : Option Tmp} {K : St → Option R} {r : R} :
    ∀ {l : List Ent}, (∀ e ∈ l, EntOk P f e) → callEnt st args dst K l = some r →
    Calls P f vs.toArray w fun
      | .returned v, w' => ∃ ε nb' x μ' S', K (St.put ⟨st.fr, ε ++ st.bl, nb'⟩ dst x) = some r ∧ StepB μ S w st.bl st.nb μ' S' w' (ε ++ st.bl) nb' ∧ RV μ' S' w' x v
      | _, _ => False
  | [], _, h => by rw [callEnt] at h; cases h
  | e :: es, hE, h => by
    rw [callEnt] at h
    split at h
    · rename_i g hg
      have hE1 := (hE e (by simp)).2
      obtain ⟨hX, hkr, hkg, _⟩ := Sh.get_ok (S' := fun b => S b ∨ Of μ st.bl g.gone b) hB hg hr (fun _ => Fs.sh_list _) (fun _ h => .inl h) (fun _ h => .inr h)
      have hoff : ∀ {ks : List Nat} b, Of μ st.bl ks b → Liv μ st.bl b := fun b ⟨k, _, x, p, h1, h2, h3, h4, h5⟩ => ⟨k, x, p, h1, h2, h3, h4, h5⟩
      have hown : apartK g.refs g.gone = true → Own (fun b => S b ∨ Of μ st.bl g.gone b) w (blocksOf μ g.refs) := by
        intro hap
        obtain ⟨hnd, hdis⟩ := apartK_ok hap
        refine ⟨fun b hb => ?_, blocksOf_nodup hB hkr hnd, fun b hb => ?_, hB.gl.move (fun _ h => .inl h) (fun _ _ => rfl)⟩
        · have h1 := (mem_blocksOf hkr).1 hb
          obtain ⟨h2, h3⟩ := hB.old b (hoff b h1)
          refine ⟨h2, ?_⟩
          rintro (h4 | ⟨k', hk', x', p', g1, g2, g3, g4, g5⟩)
          · exact h3 h4
          · obtain ⟨k, hk, x, p, i1, i2, i3, i4, i5⟩ := h1
            have := hB.inj k k' x x' p p' i1 g1 i2 g2 i3 g3 i4 g4 (i5.trans g5.symm)
            subst this
            exact hdis k hk hk'
        · rcases hb with h1 | h1
          · exact hB.sb b h1
          · exact (hB.old b (hoff b h1)).1
      cases htk : e.take with
      | true =>
        rw [htk] at h
        obtain ⟨hap, h⟩ := condT h
        obtain ⟨y, hy, hK⟩ := ob_some h
        have hown := hown hap
        refine Calls.mono (hE1 _ w vs g.x _ y hown hX hy) ?_
        intro en w' hen
        cases en with
        | panicked c => exact hen
        | outgrown => exact hen
        | returned v =>
        simp only [htk, cond_true] at hen
        obtain ⟨S', bs', hran, hsh⟩ := hen
        obtain ⟨sim1, liv1⟩ := Keys.left hB hkr hkg hran
        obtain ⟨μ2, hm2, hv2⟩ := Sh.mk_r (st := ⟨st.fr, kill (sapp g.refs g.gone) st.bl, st.nb⟩) hsh sim1 hran.nd (fun b hb => by
          obtain ⟨o1, o2⟩ := hran.old b hb
          refine ⟨o1, o2, fun hl => ?_⟩
          obtain ⟨l1, l2⟩ := liv1 b hl
          rcases hran.liv b hb with h3 | h3
          · exact l2 h3
          · have := (hB.old b l1).1; omega)
        obtain ⟨ε, hε, _⟩ := hm2.ext
        have hε : (Sh.mk e.res (e.out g.x y).1 ⟨st.fr, kill (sapp g.refs g.gone) st.bl, st.nb⟩).2.bl = ε ++ kill (sapp g.refs g.gone) st.bl := hε
        have hbl : (Sh.mk e.res (e.out g.x y).1 ⟨st.fr, kill (sapp g.refs g.gone) st.bl, st.nb⟩).2.bl = (ε ++ (sapp g.refs g.gone).map (fun k => (k, Blk.dead))) ++ st.bl := by rw [hε, kill_eq, List.append_assoc]
        refine ⟨ε ++ (sapp g.refs g.gone).map (fun k => (k, Blk.dead)), (Sh.mk e.res (e.out g.x y).1 ⟨st.fr, kill (sapp g.refs g.gone) st.bl, st.nb⟩).2.nb, (Sh.mk e.res (e.out g.x y).1 ⟨st.fr, kill (sapp g.refs g.gone) st.bl, st.nb⟩).1, μ2, S', ?_, ⟨?_, ?_, ?_⟩, hv2⟩
        · rw [← hbl]
          have hfr : (Sh.mk e.res (e.out g.x y).1 ⟨st.fr, kill (sapp g.refs g.gone) st.bl, st.nb⟩).2.fr = st.fr := hm2.fr
          generalize Sh.mk e.res (e.out g.x y).1 ⟨st.fr, kill (sapp g.refs g.gone) st.bl, st.nb⟩ = q at hK hfr ⊢
          obtain ⟨q1, q2⟩ := q
          obtain ⟨q3, q4, q5⟩ := q2
          have hfr : q3 = st.fr := hfr
          subst hfr
          exact hK
        · rw [← hbl]; exact hm2.sim
        · rw [← hbl]
          refine ⟨hran.os, hran.tape, hran.output, hran.size, fun b hb hl => hran.same b hb (fun hin => hl (hoff b ((mem_blocksOf hkr).1 hin))), fun b hb => hran.sub b (.inl hb), fun b hb => ?_, fun b hb => ?_, hm2.mu⟩
          · rcases hran.new b hb with (h | h) | h | h
            · exact .inl h
            · exact .inr (.inr (hoff b h))
            · exact .inr (.inl h)
            · exact .inr (.inr (hoff b ((mem_blocksOf hkr).1 h)))
          · rcases (hm2.liv b).1 hb with h | h
            · exact .inl (liv1 b h).1
            · rcases hran.liv b h with h | h
              · exact .inl (hoff b ((mem_blocksOf hkr).1 h))
              · exact .inr h
        · exact ⟨hm2.nb, hm2.low⟩
      | false =>
      rw [htk] at h
      obtain ⟨hc, h⟩ := condT (show cond _ _ _ = some r from h)
      obtain ⟨hap, hsane, hbx⟩ := and3_true hc
      obtain ⟨y, hy, h⟩ := ob_some h
      obtain ⟨st1, hput, hK⟩ := ob_some h
      obtain ⟨hnd, hdis⟩ := apartK_ok hap
      have hown := hown hap
      refine Calls.mono (hE1 _ w vs g.x _ y hown hX hy) ?_
      intro en w' hen
      cases en with
      | panicked c => exact hen
      | outgrown => exact hen
      | returned v =>
      simp only [htk, cond_false] at hen
      obtain ⟨S', b1, b2, hran, hres, hback⟩ := hen
      obtain ⟨bF, bU, hfx, hperm⟩ := FsX.of hback
      generalize hfl : and3 e.res.flat e.ins.allFlat true = flat at hput
      have hfl1 : flat = true → e.res.flat = true ∧ e.ins.allFlat = true := fun hh => by
        subst hh; obtain ⟨a, b, _⟩ := and3_true hfl; exact ⟨a, b⟩
      have hndb := hran.nd
      obtain ⟨nd1, nd2, nd3⟩ := List.nodup_append.1 hndb
      have ndp := (hperm.nodup_iff).1 nd2
      obtain ⟨ndF, ndU, ndFU⟩ := List.nodup_append.1 ndp
      have hbU : ∀ b ∈ bU, b ∈ b1 ++ b2 := fun b hb => List.mem_append_right _ (hperm.mem_iff.2 (List.mem_append_right _ hb))
      have hbF : ∀ b ∈ bF, b ∈ b1 ++ b2 := fun b hb => List.mem_append_right _ (hperm.mem_iff.2 (List.mem_append_left _ hb))
      obtain ⟨sim1, liv1, dead1⟩ := Fs.behind hB hsane hbx hg hr hap hkr hkg flat (fun h => (hfl1 h).2) hran (FsX.u hfx) hbU
      have hSS : ∀ b, S b → S' b := fun b hb => hran.sub b (.inl hb)
      -- blocks behind the call that are no one's
      have fresh : ∀ b ∈ b1 ++ b2, b ∉ bU → b < w'.heap.size ∧ ¬ (cond flat S S') b ∧ ¬ Liv μ (kill (sapp (Fs.lent st.bl e.ins args) (cond flat [] g.gone)) st.bl) b := by
        intro b hb hnu
        obtain ⟨o1, o2⟩ := hran.old b hb
        refine ⟨o1, fun hs => o2 (cond_sub hSS hs), fun hl => ?_⟩
        obtain ⟨l1, l2⟩ := liv1 b hl
        rcases hran.liv b hb with h3 | h3
        · exact hnu (l2 h3)
        · have := (hB.old b l1).1; omega
      have hrm : RX μ (cond flat S S') w' true args vs := RX.move (fun _ _ h => h) (fun b hb => sub_cond hSS hb) (fun b hb => hran.still hown b (.inl hb)) hr
      have hfb : FsB (cond flat S S') w' e.ins (e.out g.x y).2 vs bF := by
        have := FsX.b hfx
        cases hh : flat with
        | true => exact FsB.flat (hfl1 hh).2 hput this
        | false => exact this
      have htsub := Fs.tops_sub hg
      have hlsub := Fs.lent_sub hg
      obtain ⟨μ1, hm1⟩ := Fs.put_ok (S := cond flat S S') (w := w') (st := ⟨st.fr, kill (sapp (Fs.lent st.bl e.ins args) (cond flat [] g.gone)) st.bl, st.nb⟩) hput hrm hfb sim1 ndF
        (fun b hb => fresh b (hbF b hb) (fun hu => ndFU b hb b hu rfl)) ((htsub.trans hlsub).nodup hnd)
        (fun k hk y hy => by
          have := dead1 k (htsub.mem hk)
          rw [this] at hy; cases hy; rfl)
        (fun k hk => by obtain ⟨x, p, _, _, hp⟩ := hkr k (hlsub.mem (htsub.mem hk)); exact ⟨p, hp⟩) (TopsOk.of hB hg)
      have hresS : ShR (cond flat S S') w' e.res (e.out g.x y).1 v b1 := by
        cases hh : flat with
        | true => exact ShR.flat (hfl1 hh).1 hres
        | false => exact hres
      obtain ⟨μ2, hm2, hv2⟩ := Sh.mk_r hresS hm1.sim nd1 (fun b hb => by
        have hnu : b ∉ bU := fun hu => nd3 b hb b (hperm.mem_iff.2 (List.mem_append_right _ hu)) rfl
        obtain ⟨f1, f2, f3⟩ := fresh b (List.mem_append_left _ hb) hnu
        refine ⟨f1, f2, fun hl => ?_⟩
        rcases (hm1.liv b).1 hl with h | h
        · exact f3 h
        · exact nd3 b hb b (hperm.mem_iff.2 (List.mem_append_left _ h)) rfl)
      obtain ⟨ε1, hε1⟩ := hm1.ext
      obtain ⟨ε2, hε2, _⟩ := hm2.ext
      have hbl : (Sh.mk e.res (e.out g.x y).1 st1).2.bl = (ε2 ++ ε1 ++ (sapp (Fs.lent st.bl e.ins args) (cond flat [] g.gone)).map (fun k => (k, Blk.dead))) ++ st.bl := by
        rw [hε2, hε1, kill_eq]
        simp [List.append_assoc]
      refine ⟨ε2 ++ ε1 ++ (sapp (Fs.lent st.bl e.ins args) (cond flat [] g.gone)).map (fun k => (k, Blk.dead)), (Sh.mk e.res (e.out g.x y).1 st1).2.nb, (Sh.mk e.res (e.out g.x y).1 st1).1, μ2, cond flat S S', ?_, ⟨?_, ?_, ?_⟩, hv2⟩
      rotate_left
      · rw [← hbl]; exact hm2.sim
      · rw [← hbl]
        refine ⟨hran.os, hran.tape, hran.output, hran.size, fun b hb hl => hran.same b hb (fun hin => hl (hoff b ((mem_blocksOf hkr).1 hin))), fun b hb => sub_cond hSS hb, fun b hb => ?_, fun b hb => ?_, fun k p hp => hm2.mu k p (hm1.mu k p hp)⟩
        · rcases hran.new b (cond_sub hSS hb) with (h | h) | h | h
          · exact .inl h
          · exact .inr (.inr (hoff b h))
          · exact .inr (.inl h)
          · exact .inr (.inr (hoff b ((mem_blocksOf hkr).1 h)))
        · have back : ∀ b ∈ b1 ++ b2, Liv μ st.bl b ∨ w.heap.size ≤ b := fun b hb => by
            rcases hran.liv b hb with h | h
            · exact .inl (hoff b ((mem_blocksOf hkr).1 h))
            · exact .inr h
          rcases (hm2.liv b).1 hb with h | h
          · rcases (hm1.liv b).1 h with h | h
            · exact .inl (liv1 b h).1
            · exact back b (hbF b h)
          · exact back b (List.mem_append_left _ h)
      · exact ⟨Nat.le_trans hm1.nb hm2.nb, fun k hk => (hm2.low k (Nat.lt_of_lt_of_le hk hm1.nb)).trans (hm1.low k hk)⟩
      · rw [← hbl]
        have hfr : (Sh.mk e.res (e.out g.x y).1 st1).2.fr = st.fr := hm2.fr.trans hm1.fr
        have : (⟨st.fr, (Sh.mk e.res (e.out g.x y).1 st1).2.bl, (Sh.mk e.res (e.out g.x y).1 st1).2.nb⟩ : St) = (Sh.mk e.res (e.out g.x y).1 st1).2 := by
          rw [← hfr]
        rw [this]
        exact hK
    · exact callEnt_ok hB hr (fun e' he' => hE e' (by simp [he'])) h

/-- Nil, or a slice. -/
def OptV (S : Nat → Prop) (w : World) (e : Ty) (v : Value) : Option (List e.den) → Prop
  | none => v = .slice none 0 0
  | some xs => Rep S w (.sl e) xs [v]
/-- A function returns nil or a slice that is not empty. -/
def OptOk (P : Program) (f : Nat) (e : Opt) : Prop :=
  (∃ fn c, P.funcs[f]? = some fn ∧ fn.body = some c ∧ (fn.name == "runtime.NumGoroutine") = false) ∧
  ∀ (S : Nat → Prop) (w : World) (vs : List Value) (x : e.ins.ty.den) (bs : List Nat) (y : Option (List e.e.den)), Own S w bs → ShX S w true e.ins.sh x vs bs → e.fn x = some y →
    Calls P f vs.toArray w fun
      | .returned v, w' => ∃ S', Ran S w bs S' w' [] ∧ OptV S' w' e.e v y
      | _, _ => False

theorem callOpt_ok {R : Type} {f : Nat} {st : St} (hB : SimB μ S w st.bl st.nb) {args : AV} {vs : List Value} (hr : RX μ S w true args vs) {dst : Option Tmp} {K : St → Option R} {r : R} {e : Opt} (hE : OptOk P f e) (h : callOpt st args dst K e = some r) :
    Calls P f vs.toArray w fun
      | .returned v, w' => ∃ ε nb' x μ' S', K (St.put ⟨st.fr, ε ++ st.bl, nb'⟩ dst x) = some r ∧ StepB μ S w st.bl st.nb μ' S' w' (ε ++ st.bl) nb' ∧ RV μ' S' w' x v
      | _, _ => False := by
  unfold callOpt at h
  obtain ⟨g, hg, h⟩ := ob_some h
  have hE1 := hE.2
  obtain ⟨hX, hkr, hkg, _⟩ := Sh.get_ok (S' := fun b => S b ∨ Of μ st.bl g.gone b) hB hg hr (fun _ => Fs.sh_list _) (fun _ h => .inl h) (fun _ h => .inr h)
  have hoff : ∀ {ks : List Nat} b, Of μ st.bl ks b → Liv μ st.bl b := fun b ⟨k, _, x, p, h1, h2, h3, h4, h5⟩ => ⟨k, x, p, h1, h2, h3, h4, h5⟩
  obtain ⟨hap, h⟩ := condT h
  have hown : Own (fun b => S b ∨ Of μ st.bl g.gone b) w (blocksOf μ g.refs) := by
    obtain ⟨hnd, hdis⟩ := apartK_ok hap
    refine ⟨fun b hb => ?_, blocksOf_nodup hB hkr hnd, fun b hb => ?_, hB.gl.move (fun _ h => .inl h) (fun _ _ => rfl)⟩
    · have h1 := (mem_blocksOf hkr).1 hb
      obtain ⟨h2, h3⟩ := hB.old b (hoff b h1)
      refine ⟨h2, ?_⟩
      rintro (h4 | ⟨k', hk', x', p', g1, g2, g3, g4, g5⟩)
      · exact h3 h4
      · obtain ⟨k, hk, x, p, i1, i2, i3, i4, i5⟩ := h1
        have := hB.inj k k' x x' p p' i1 g1 i2 g2 i3 g3 i4 g4 (i5.trans g5.symm)
        subst this
        exact hdis k hk hk'
    · rcases hb with h1 | h1
      · exact hB.sb b h1
      · exact (hB.old b (hoff b h1)).1
  obtain ⟨y, hy, hK⟩ := ob_some h
  refine Calls.mono (hE1 _ w vs g.x _ y hown hX hy) ?_
  intro en w' hen
  cases en with
  | panicked c => exact hen
  | outgrown => exact hen
  | returned v =>
  obtain ⟨S', hran, hsh⟩ := hen
  obtain ⟨sim1, liv1⟩ := Keys.left hB hkr hkg hran
  have hbl : kill (sapp g.refs g.gone) st.bl = (sapp g.refs g.gone).map (fun k => (k, Blk.dead)) ++ st.bl := kill_eq _ _
  have hst : StepB μ S w st.bl st.nb μ S' w' ((sapp g.refs g.gone).map (fun k => (k, Blk.dead)) ++ st.bl) st.nb := by
    rw [← hbl]
    refine ⟨sim1, ⟨hran.os, hran.tape, hran.output, hran.size, fun b hb hl => hran.same b hb (fun hin => hl (hoff b ((mem_blocksOf hkr).1 hin))), fun b hb => hran.sub b (.inl hb), fun b hb => ?_, fun b hb => .inl (liv1 b hb).1, fun _ _ h => h⟩, Nat.le_refl _, fun _ _ => rfl⟩
    rcases hran.new b hb with (h | h) | h | h
    · exact .inl h
    · exact .inr (.inr (hoff b h))
    · exact .inr (.inl h)
    · exact .inr (.inr (hoff b ((mem_blocksOf hkr).1 h)))
  cases y with
  | none =>
    have hv : v = .slice none 0 0 := hsh
    subst hv
    have hK : K (St.put ⟨st.fr, kill (sapp g.refs g.gone) st.bl, st.nb⟩ dst .nil) = some r := hK
    rw [hbl] at hK
    exact ⟨_, st.nb, .nil, μ, S', hK, hst, RV.of (a := .nil) rfl⟩
  | some xs =>
    have hv : Rep S' w' (.sl e.e) xs [v] := hsh
    have hK : K (St.put ⟨st.fr, kill (sapp g.refs g.gone) st.bl, st.nb⟩ dst (.dat (.sl e.e) xs)) = some r := hK
    rw [hbl] at hK
    exact ⟨_, st.nb, .dat (.sl e.e) xs, μ, S', hK, hst, RV.of (a := .dat (.sl e.e) xs) hv⟩

theorem callEnt_const {R : Type} {st : St} {args : AV} {dst : Option Tmp} {K : St → Option R} {e : Ent} {g : Got e.ins.ty} {y : e.α} (hg : Fs.get st.bl e.ins args = some g) (hy : e.fn g.x = some y) :
    callEnt st args dst K [⟨e.ins, e.res, e.α, fun _ => some y, e.out, e.take⟩] = callEnt st args dst K [e] := by
  simp only [callEnt, hg, hy, ob]

/-- Of several readings the one that says something. -/
theorem callAlt_ok {R : Type} {f : Nat} {st : St} (hB : SimB μ S w st.bl st.nb) {args : AV} {vs : List Value} (hr : RX μ S w true args vs) {dst : Option Tmp} {K : St → Option R} {r : R} :
    ∀ {l : List Ent}, (∀ e ∈ l, EntOk P f e) → callAlt st args dst K l = some r →
    Calls P f vs.toArray w fun
      | .returned v, w' => ∃ ε nb' x μ' S', K (St.put ⟨st.fr, ε ++ st.bl, nb'⟩ dst x) = some r ∧ StepB μ S w st.bl st.nb μ' S' w' (ε ++ st.bl) nb' ∧ RV μ' S' w' x v
      | _, _ => False
  | [], _, h => by rw [callAlt] at h; cases h
  | [e], hE, h => callEnt_ok hB hr hE h
  | e :: e' :: es, hE, h => by
    rw [callAlt] at h
    split at h
    · rename_i g hg
      cases hy : e.fn g.x with
      | none =>
        rw [hy] at h
        exact callAlt_ok hB hr (fun x hx => hE x (List.mem_cons_of_mem _ hx)) h
      | some y =>
        rw [hy] at h
        have h : callEnt st args dst K [⟨e.ins, e.res, e.α, fun _ => some y, e.out, e.take⟩] = some r := h
        rw [callEnt_const hg hy] at h
        exact callEnt_ok hB hr (l := [e]) (fun x hx => hE x (by rw [List.mem_singleton.1 hx]; exact List.mem_cons_self)) h
    · exact callAlt_ok hB hr (fun x hx => hE x (List.mem_cons_of_mem _ hx)) h

end
end Go.Pv
