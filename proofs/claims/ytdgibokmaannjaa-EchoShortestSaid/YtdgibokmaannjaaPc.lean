/- A pure reading of the model's code, and that the run does what it says: part c. -/
import Derived.Test.YtdgibokmaannjaaPb
import Derived.ChangeKeysEq
import Derived.Laws.BytesArg
/- Operations of the reading against the model's: composite values, literal slices, parts. -/
set_option linter.unusedVariables false
set_option linter.unusedSimpArgs false
namespace Go.Pv

theorem fold_set (off : Nat) : ∀ (l : List Value) (k : Nat) (cs : Array Value), off + k + l.length ≤ cs.size →
    ((l.zipIdx k).foldl (fun cs p => cs.setIfInBounds (off + p.2) p.1) cs).toList = cs.toList.take (off + k) ++ l ++ cs.toList.drop (off + k + l.length)
  | [], k, cs, h => by simp
  | x :: l, k, cs, h => by
    simp only [List.length_cons] at h
    have ih := fold_set off l (k + 1) (cs.setIfInBounds (off + k) x) (by simp; omega)
    rw [List.zipIdx_cons, List.foldl_cons, ih, Array.toList_setIfInBounds]
    have hlt : off + k < cs.toList.length := by simp; omega
    have e1 : (cs.toList.set (off + k) x).take (off + (k + 1)) = cs.toList.take (off + k) ++ [x] := by
      rw [← Nat.add_assoc, List.take_add_one, List.take_set_of_le (by omega), List.getElem?_set_self hlt]
      rfl
    have e2 : (cs.toList.set (off + k) x).drop (off + (k + 1) + l.length) = cs.toList.drop (off + k + (l.length + 1)) := by
      rw [List.drop_set_of_lt (by omega)]
      congr 1; omega
    rw [e1, e2]
    simp [List.append_assoc]

theorem fill_cons {place : Nat → Option (Nat × Nat)} {cs : List Value} {i : Nat} {v : Value} {rest : List (Nat × Value)} {off size : Nat} (hp : place i = some (off, size)) (hl : v.cells.toList.length = size) (hf : off + size ≤ cs.length) :
    Instr.fill place cs.toArray ((i, v) :: rest) = Instr.fill place (cs.take off ++ v.cells.toList ++ cs.drop (off + size)).toArray rest := by
  have hl' : v.cells.size = size := by simpa using hl
  have hn : ¬ ((v.cells.size ≠ size || off + v.cells.size > cs.toArray.size) = true) := by
    simp [hl']; omega
  have hfold := fold_set off v.cells.toList 0 cs.toArray (by simp only [Nat.add_zero, List.size_toArray, hl]; exact hf)
  have hfold' : v.cells.zipIdx.foldl (fun cs (p : Value × Nat) => cs.setIfInBounds (off + p.2) p.1) cs.toArray = (cs.take off ++ v.cells.toList ++ cs.drop (off + size)).toArray := by
    apply Array.ext'
    rw [← Array.foldl_toList, Array.toList_zipIdx]
    simp only [Nat.add_zero, hl] at hfold
    exact hfold
  rw [Instr.fill, hp]
  dsimp only
  rw [if_neg hn]
  exact congrArg (fun c => Instr.fill place c rest) hfold'

section
variable {P : Program} {T : Nat → TI} {μ : Nat → Option At} {S : Nat → Prop} {w : World} {bl : List (Nat × Blk)} {nb : Nat}

/-- The parts of a composite value. -/
theorem buildAV_ok {L : Lib} {st : St} {a : Act} (hf : SimF μ S w st.fr a) {fs : List (Nat × Nat)} {place : Nat → Option (Nat × Nat)} (hpl : ∀ i p, snth fs i = some p → place i = some (p.1, (L.ti p.2).size)) :
    ∀ {parts : List (Nat × Operand)} {z u : AV} {cs : List Value}, buildAV L st fs z parts = some u → RX μ S w false z cs →
    ∃ cs' : List Value, Instr.fill place cs.toArray (parts.map fun p => (p.1, a.eval p.2)) = some cs'.toArray ∧ RX μ S w false u cs' ∧ u.agg = z.agg
  | [], z, u, cs, h, hz => by
    rw [buildAV] at h; cases h
    exact ⟨cs, rfl, hz, rfl⟩
  | p :: r, z, u, cs, h, hz => by
    rw [buildAV] at h
    obtain ⟨f, hfi, h⟩ := ob_some h
    obtain ⟨v, hv, h⟩ := ob_some h
    obtain ⟨h1, h2⟩ := condT h
    rw [Bool.and_eq_true] at h1
    obtain ⟨z', hz', h⟩ := ob_some h2
    obtain ⟨hr, hj, hc⟩ := St.opd_ok hf hv
    obtain ⟨c1, _, _⟩ := hr.cells hj hc
    have hl := RC.length c1
    rw [beq_true h1.1] at hl
    obtain ⟨g1, g2, g3⟩ := AV.upd_ok c1 hl (beqB_true h1.2) hz' hz
    obtain ⟨cs', k1, k2, k3⟩ := buildAV_ok hf hpl h g1
    refine ⟨cs', ?_, k2, k3.trans g2⟩
    rw [List.map_cons, fill_cons (hpl _ _ hfi) hl g3]
    exact k1

theorem fields_run {t : Nat} (hT : ∀ t, TiOk P T t) : ∀ (fields : List Field), (∀ f ∈ fields, (T f.type).size ≠ 0) →
    (fields.mapM fun f => (do pure (f.offset, ← sizeOf f.type) : Sem (Nat × Nat))).run P w = .ok (fields.map fun f => (f.offset, (T f.type).size)) w
  | [], _ => by simp
  | f :: r, h => by
    have h1 := run_sizeOf (hT f.type) (h f (by simp)) w
    have h2 := fields_run hT r (fun g hg => h g (by simp [hg])) (t := t)
    rw [List.mapM_cons]
    simp only [Sem.run_bind, h1, Result.andThen_ok, Sem.run_pure, h2, List.map_cons]

theorem buildArr_ok {st : St} {a : Act} (hB : SimB μ S w st.bl st.nb) (hf : SimF μ S w st.fr a) {e : Ty} {n : Nat} :
    ∀ {parts : List (Nat × Operand)} {xs ys : List e.den} {cs : List Value}, buildArr st e n xs parts = some ys → RepRow (Rep S w e) xs cs → xs.length = n →
    ∃ cs' : List Value, Instr.fill (fun i => some (i * e.size, e.size)) cs.toArray (parts.map fun p => (p.1, a.eval p.2)) = some cs'.toArray ∧ RepRow (Rep S w e) ys cs' ∧ ys.length = n
  | [], xs, ys, cs, h, hr, hl => by
    rw [buildArr] at h; cases h
    exact ⟨cs, rfl, hr, hl⟩
  | p :: r, xs, ys, cs, h, hr, hl => by
    rw [buildArr] at h
    obtain ⟨v, hv, h⟩ := ob_some h
    obtain ⟨h1, h⟩ := condT h
    have h1 := blt_true h1
    obtain ⟨⟨y, ks⟩, hy, h⟩ := ob_some h
    obtain ⟨h2, h⟩ := condT h
    cases ks with
    | cons _ _ => cases h2
    | nil =>
    obtain ⟨hrv, hj, hc⟩ := St.opd_ok hf hv
    obtain ⟨c1, _, _⟩ := hrv.cells hj hc
    obtain ⟨g1, _⟩ := AV.take_ok hB hy c1 (S' := S) (fun _ h => h) (fun b hb => by obtain ⟨k, hk, _⟩ := hb; simp at hk)
    have hcl := Rep.length g1
    have hrl := RepRow.length (n := e.size) (fun x c h => Rep.length h) hr
    have hfit : p.1 * e.size + e.size ≤ cs.length := by
      have : (p.1 + 1) * e.size ≤ n * e.size := Nat.mul_le_mul_right _ h1
      rw [hrl, hl]; rw [Nat.add_mul, Nat.one_mul] at this; exact this
    obtain ⟨cs', k1, k2, k3⟩ := buildArr_ok hB hf h (RepRow.set (fun x c h => Rep.length h) p.1 y _ hr (by omega) g1) (by simpa using hl)
    refine ⟨cs', ?_, k2, k3⟩
    rw [List.map_cons, fill_cons rfl hcl hfit]
    exact k1

theorem buildSl_gone {st : St} {e : Ty} {n : Nat} : ∀ {parts : List (Nat × Operand)} {xs ys : List e.den} {g g' : List Nat}, buildSl st e n xs g parts = some (ys, g') → ∀ k ∈ g, k ∈ g'
  | [], xs, ys, g, g', h => by rw [buildSl] at h; cases h; exact fun _ h => h
  | p :: r, xs, ys, g, g', h => by
    rw [buildSl] at h
    obtain ⟨v, hv, h⟩ := ob_some h
    obtain ⟨h1, h⟩ := condT h
    obtain ⟨⟨y, ks⟩, hy, h⟩ := ob_some h
    intro k hk
    refine buildSl_gone h k ?_
    rw [sapp_eq]; simp [hk]

theorem buildSl_ok {st : St} {a : Act} (hB : SimB μ S w st.bl st.nb) (hf : SimF μ S w st.fr a) {e : Ty} {n : Nat} {S' : Nat → Prop} (hS : ∀ b, S b → S' b) :
    ∀ {parts : List (Nat × Operand)} {xs ys : List e.den} {g g' : List Nat} {cs : List Value}, buildSl st e n xs g parts = some (ys, g') → (∀ b, Of μ st.bl g' b → S' b) → RepRow (Rep S' w e) xs cs → xs.length = n →
    ∃ cs' : List Value, Instr.fill (fun i => some (i * e.size, e.size)) cs.toArray (parts.map fun p => (p.1, a.eval p.2)) = some cs'.toArray ∧ RepRow (Rep S' w e) ys cs' ∧ ys.length = n
  | [], xs, ys, g, g', cs, h, hg, hr, hl => by
    rw [buildSl] at h; cases h
    exact ⟨cs, rfl, hr, hl⟩
  | p :: r, xs, ys, g, g', cs, h, hg, hr, hl => by
    rw [buildSl] at h
    obtain ⟨v, hv, h⟩ := ob_some h
    obtain ⟨h1, h⟩ := condT h
    have h1 := blt_true h1
    obtain ⟨⟨y, ks⟩, hy, h⟩ := ob_some h
    have hin := buildSl_gone h
    obtain ⟨hrv, hj, hc⟩ := St.opd_ok hf hv
    obtain ⟨c1, _, _⟩ := hrv.cells hj hc
    obtain ⟨g1, _⟩ := AV.take_ok hB hy c1 hS (fun b hb => hg b (Of.imp (fun k hk => hin k (by rw [sapp_eq]; simp [hk])) hb))
    have hcl := Rep.length g1
    have hrl := RepRow.length (n := e.size) (fun x c h => Rep.length h) hr
    have hfit : p.1 * e.size + e.size ≤ cs.length := by
      have : (p.1 + 1) * e.size ≤ n * e.size := Nat.mul_le_mul_right _ h1
      rw [hrl, hl]; rw [Nat.add_mul, Nat.one_mul] at this; exact this
    obtain ⟨cs', k1, k2, k3⟩ := buildSl_ok hB hf hS h hg (RepRow.set (fun x c h => Rep.length h) p.1 y _ hr (by omega) g1) (by simpa using hl)
    refine ⟨cs', ?_, k2, k3⟩
    rw [List.map_cons, fill_cons rfl hcl hfit]
    exact k1

theorem slen_eq {α : Type} : ∀ (l : List α), slen l = l.length
  | [] => rfl
  | x :: l => by rw [slen, slen_eq l]; rfl

theorem buildVals_ok {st : St} {a : Act} (hf : SimF μ S w st.fr a) {sz : Nat} {g : Bool} :
    ∀ {parts : List (Nat × Operand)} {i : Nat} {vs : AV} {pre rest : List Value}, buildVals st sz g i parts = some vs → pre.length = i * sz → rest.length = parts.length * sz →
    ∃ cs' : List Value, Instr.fill (fun i => some (i * sz, sz)) (pre ++ rest).toArray (parts.map fun p => (p.1, a.eval p.2)) = some (pre ++ cs').toArray ∧ RVals μ S w sz vs cs'
  | [], i, vs, pre, rest, h, hp, hr => by
    rw [buildVals] at h; cases h
    have : rest = [] := List.eq_nil_of_length_eq_zero (by simpa using hr)
    subst this
    exact ⟨[], rfl, rfl⟩
  | p :: r, i, vs, pre, rest, h, hp, hr => by
    rw [buildVals] at h
    obtain ⟨h1, h⟩ := condT h
    have h1 := beq_true h1
    obtain ⟨v, hv, h⟩ := ob_some h
    obtain ⟨h2, h⟩ := condT h
    obtain ⟨h3, h4, _⟩ := and3_true h2
    obtain ⟨vs', hvs, h⟩ := ob_some h
    cases h
    obtain ⟨hrv, hj, hc⟩ := St.opd_ok hf hv
    obtain ⟨c1, _, _⟩ := hrv.cells hj hc
    have hl := RC.length c1
    rw [beq_true h3] at hl
    have hr' : rest.length = sz + r.length * sz := by rw [hr, List.length_cons, Nat.add_mul, Nat.one_mul, Nat.add_comm]
    have hpre : (pre ++ (a.eval p.2).cells.toList).length = (i + 1) * sz := by rw [List.length_append, hp, hl, Nat.add_mul, Nat.one_mul]
    obtain ⟨cs', k1, k2⟩ := buildVals_ok hf (pre := pre ++ (a.eval p.2).cells.toList) (rest := rest.drop sz) hvs hpre (by rw [List.length_drop]; omega)
    refine ⟨(a.eval p.2).cells.toList ++ cs', ?_, ⟨_, _, rfl, hl, c1, k2⟩⟩
    rw [List.map_cons, fill_cons (off := i * sz) (size := sz) (by rw [h1]) hl (by rw [List.length_append, hp]; omega)]
    have e1 : (pre ++ rest).take (i * sz) = pre := by rw [List.take_append_of_le_length (by omega), List.take_of_length_le (by omega)]
    have e2 : (pre ++ rest).drop (i * sz + sz) = rest.drop sz := by
      rw [List.drop_append, List.drop_of_length_le (by omega), hp, Nat.add_sub_cancel_left, List.nil_append]
    rw [e1, e2]
    rw [k1, List.append_assoc]

theorem run_part_ok {t : Nat} (hT : TiOk P T t) (hs : (T t).size ≠ 0) {off : Nat} {cs : List Value} {u : AV} (hu : RX μ S w false u ((cs.drop off).take (T t).size)) (hg : u.agg = (T t).agg) (hfit : off + (T t).size ≤ cs.length) :
    ∃ v, (part t cs.toArray off).run P w = .ok v w ∧ RV μ S w u v := by
  have ha := hT.agg hs w
  cases hga : (T t).agg with
  | true =>
    rw [hga] at ha
    refine ⟨.agg ((cs.drop off).take (T t).size).toArray, ?_, RV.of_agg hu (hg.trans hga)⟩
    simp only [part, Sem.run_bind, ha, Result.andThen_ok, if_true, run_sizeOf hT hs, Sem.run_pure]
    congr 2
    apply Array.ext'
    simp [List.drop_take]
  | false =>
    rw [hga] at ha
    obtain ⟨d, hd⟩ := AV.one_cell hu (hg.trans hga)
    rw [hd] at hu
    refine ⟨d, ?_, RV.of_one hu (hg.trans hga)⟩
    have h1 : cs[off]? = some d := by
      have : ((cs.drop off).take (T t).size)[0]? = some d := by rw [hd]; rfl
      rw [List.getElem?_take] at this
      split at this
      · rw [List.getElem?_drop] at this; simpa using this
      · cases this
    simp [part, ha, h1]

end
end Go.Pv

/- Operations of the reading against the model's: maps. -/
set_option linter.unusedVariables false
set_option linter.unusedSimpArgs false
namespace Go.Pv

section
variable {P : Program} {T : Nat → TI} {μ : Nat → Option At} {S : Nat → Prop} {w : World} {bl : List (Nat × Blk)} {nb : Nat}

/-- What is needed of keys. -/
structure KeyOk (P : Program) (kt0 : TypeId) (kt : Ty) : Prop where
  refl : ∀ x : kt.den, kt.beq x x = true
  check : ∀ {S w x a em}, ValOf S w kt x a → (Instr.checkKey em 10000 kt0 a).run P w = .ok () w
  same : ∀ {S w x y a b}, ValOf S w kt x a → ValOf S w kt y b → kt.beq x y = true → x = y ∧ a = b ∧ Instr.sameBits 10000 b a = true
  eql : ∀ {S w x y a b}, ValOf S w kt x a → ValOf S w kt y b → (Op.equal kt0 a b).run P w = .ok (kt.beq x y) w
  find : ∀ {S w x a}, ValOf S w kt x a → (∃ eq : Value → Bool, (∀ {y b}, ValOf S w kt y b → eq b = kt.beq x y) ∧
    ∀ (l : List MapEntry), (∀ e ∈ l, ∃ y, ValOf S w kt y e.key) → ∃ res, (Instr.findKey kt0 a l).run P w = .ok res w ∧
      ((res = none ∧ ∀ e ∈ l, eq e.key = false) ∨ ∃ j e, res = some (j, e.val) ∧ l[j]? = some e ∧ eq e.key = true ∧ ∀ i e', i < j → l[i]? = some e' → eq e'.key = false))

/-- The place of a key. -/
theorem mget_none {kt vt : Ty} {x : kt.den} : ∀ {es : List (kt.den × vt.den)}, (∀ p ∈ es, kt.beq x p.1 = false) → mget kt vt es x = none ∧ ∀ v, mset kt vt es x v = es ++ [(x, v)]
  | [], _ => ⟨rfl, fun _ => rfl⟩
  | p :: r, h => by
    obtain ⟨h1, h2⟩ := mget_none (es := r) fun q hq => h q (by simp [hq])
    have hp := h p (by simp)
    refine ⟨by rw [mget, hp]; exact h1, fun v => ?_⟩
    rw [mset, hp]
    show p :: mset kt vt r x v = _
    rw [h2]; rfl

theorem mget_some {kt vt : Ty} {x : kt.den} : ∀ {es : List (kt.den × vt.den)} {j : Nat} {p : kt.den × vt.den}, es[j]? = some p → kt.beq x p.1 = true → (∀ i q, i < j → es[i]? = some q → kt.beq x q.1 = false) →
    mget kt vt es x = some p.2 ∧ ∀ v, mset kt vt es x v = es.set j (p.1, v)
  | [], j, p, h, _, _ => by simp at h
  | q :: r, 0, p, h, hb, _ => by
    simp only [List.getElem?_cons_zero, Option.some.injEq] at h
    subst h
    refine ⟨by rw [mget, hb]; rfl, fun v => ?_⟩
    rw [mset, hb]; rfl
  | q :: r, j + 1, p, h, hb, hn => by
    have hq := hn 0 q (by omega) rfl
    obtain ⟨h1, h2⟩ := mget_some (es := r) (j := j) (by simpa using h) hb (fun i q' hi hq' => hn (i + 1) q' (by omega) (by simpa using hq'))
    refine ⟨by rw [mget, hq]; exact h1, fun v => ?_⟩
    rw [mset, hq]
    show q :: mset kt vt r x v = _
    rw [h2]; rfl

theorem REnts.get {kt vt : Ty} : ∀ {es : List (kt.den × vt.den)} {l : List MapEntry} {j : Nat} {e : MapEntry}, REnts S w kt vt es l → l[j]? = some e → ∃ p, es[j]? = some p ∧ ValOf S w kt p.1 e.key ∧ ValOf S w vt p.2 e.val
  | [], l, j, e, h, he => by rw [REnts] at h; subst h; simp at he
  | p :: r, l, 0, e, ⟨e1, es', el, h1, h2, h3⟩, he => by
    subst el
    simp only [List.getElem?_cons_zero, Option.some.injEq] at he; subst he
    exact ⟨p, rfl, h1, h2⟩
  | p :: r, l, j + 1, e, ⟨e1, es', el, h1, h2, h3⟩, he => by
    subst el
    obtain ⟨q, hq, g⟩ := REnts.get h3 (by simpa using he)
    exact ⟨q, by simpa using hq, g⟩

theorem REnts.set {kt vt : Ty} {x : kt.den} {v : vt.den} {e : MapEntry} (hx : ValOf S w kt x e.key) (hv : ValOf S w vt v e.val) : ∀ {es : List (kt.den × vt.den)} {l : List MapEntry} {j : Nat}, REnts S w kt vt es l → REnts S w kt vt (es.set j (x, v)) (l.set j e)
  | [], l, j, h => by rw [REnts] at h; subst h; exact rfl
  | p :: r, l, 0, ⟨e1, es', el, h1, h2, h3⟩ => ⟨e, es', by rw [el]; rfl, hx, hv, h3⟩
  | p :: r, l, j + 1, ⟨e1, es', el, h1, h2, h3⟩ => ⟨e1, _, by rw [el]; rfl, h1, h2, REnts.set hx hv h3⟩

theorem REnts.push {kt vt : Ty} {x : kt.den} {v : vt.den} {e : MapEntry} (hx : ValOf S w kt x e.key) (hv : ValOf S w vt v e.val) : ∀ {es : List (kt.den × vt.den)} {l : List MapEntry}, REnts S w kt vt es l → REnts S w kt vt (es ++ [(x, v)]) (l ++ [e])
  | [], l, h => by rw [REnts] at h; subst h; exact ⟨e, [], rfl, hx, hv, rfl⟩
  | p :: r, l, ⟨e1, es', e2, h1, h2, h3⟩ => ⟨e1, _, by rw [e2]; rfl, h1, h2, REnts.push hx hv h3⟩

/-- A key is looked for. -/
theorem find_ok {kt0 : TypeId} {kt vt : Ty} (hk : KeyOk P kt0 kt) {x : kt.den} {a : Value} (hx : ValOf S w kt x a) {es : List (kt.den × vt.den)} {l : List MapEntry} (hl : REnts S w kt vt es l) :
    ∃ res, (Instr.findKey kt0 a l).run P w = .ok res w ∧ ((res = none ∧ (mget kt vt es x = none ∧ ∀ v, mset kt vt es x v = es ++ [(x, v)]) ∧ ∀ e ∈ l, e.key ≠ a) ∨
      ∃ j e p, res = some (j, e.val) ∧ l[j]? = some e ∧ es[j]? = some p ∧ ValOf S w kt p.1 e.key ∧ ValOf S w vt p.2 e.val ∧ kt.beq x p.1 = true ∧ mget kt vt es x = some p.2 ∧ ∀ v, mset kt vt es x v = es.set j (p.1, v)) := by
  obtain ⟨eq, h1, h2⟩ := hk.find hx
  have hkeys : ∀ e ∈ l, ∃ y, ValOf S w kt y e.key := by
    intro e he
    obtain ⟨j, hj⟩ := List.getElem?_of_mem he
    obtain ⟨p, _, g, _⟩ := hl.get hj
    exact ⟨_, g⟩
  have hget : ∀ {j : Nat} {p : kt.den × vt.den}, es[j]? = some p → ∃ e, l[j]? = some e ∧ ValOf S w kt p.1 e.key := by
    intro j p hp
    have hlt : j < l.length := by
      rw [hl.length]
      exact (List.getElem?_eq_some_iff.1 hp).1
    obtain ⟨q, hq, g, _⟩ := hl.get (List.getElem?_eq_getElem hlt)
    rw [hp] at hq; cases hq
    exact ⟨_, List.getElem?_eq_getElem hlt, g⟩
  obtain ⟨res, hr, hres⟩ := h2 l hkeys
  refine ⟨res, hr, ?_⟩
  rcases hres with ⟨rfl, hno⟩ | ⟨j, e, rfl, hj, he, hfirst⟩
  · refine .inl ⟨rfl, mget_none fun p hp => ?_, fun e he ha => ?_⟩
    · obtain ⟨j, hj⟩ := List.getElem?_of_mem hp
      obtain ⟨e, g1, g2⟩ := hget hj
      rw [← h1 g2]
      exact hno e (List.mem_of_getElem? g1)
    · have g1 := hno e he
      rw [ha, h1 hx, hk.refl] at g1
      cases g1
  · obtain ⟨p, hp, g1, g2⟩ := hl.get hj
    have hb : kt.beq x p.1 = true := by rw [← h1 g1]; exact he
    obtain ⟨m1, m2⟩ := mget_some hp hb fun i q hi hq => by
      obtain ⟨e', k1, k2⟩ := hget hq
      rw [← h1 k2]
      exact hfirst i e' hi k1
    exact .inr ⟨j, e, p, rfl, hj, hp, g1, g2, hb, m1, m2⟩

theorem findNow_ok {d : TypeDesc} {a : Value} {eq : Value → Bool} : ∀ (l : List MapEntry) (i : Nat), (∀ e ∈ l, Instr.sameNow d a e.key = some (eq e.key)) →
    ∃ res, Instr.findNow d a l i = some res ∧ ((res = none ∧ ∀ e ∈ l, eq e.key = false) ∨ ∃ j e, res = some (i + j, e.val) ∧ l[j]? = some e ∧ eq e.key = true ∧ ∀ i e', i < j → l[i]? = some e' → eq e'.key = false)
  | [], i, _ => ⟨none, rfl, .inl ⟨rfl, by simp⟩⟩
  | e :: l, i, h => by
    have he := h e (by simp)
    cases hb : eq e.key with
    | true =>
      refine ⟨some (i, e.val), by rw [Instr.findNow, he, hb], .inr ⟨0, e, rfl, rfl, hb, fun i e' hi => by omega⟩⟩
    | false =>
      obtain ⟨res, h1, h2⟩ := findNow_ok l (i + 1) fun e' he' => h e' (by simp [he'])
      refine ⟨res, by rw [Instr.findNow, he, hb]; exact h1, ?_⟩
      rcases h2 with ⟨rfl, h3⟩ | ⟨j, e', rfl, h3, h4, h5⟩
      · exact .inl ⟨rfl, by simpa [hb] using h3⟩
      · refine .inr ⟨j + 1, e', by rw [show i + 1 + j = i + (j + 1) by omega], by simpa using h3, h4, ?_⟩
        intro i' e'' hi he''
        cases i' with
        | zero => simp only [List.getElem?_cons_zero, Option.some.injEq] at he''; rw [← he'']; exact hb
        | succ i' => exact h5 i' e'' (by omega) (by simpa using he'')

theorem findAsking_ok {kt0 : TypeId} {a : Value} {eq : Value → Bool} : ∀ (l : List MapEntry) (i : Nat), (∀ e ∈ l, (Op.equal kt0 a e.key).run P w = .ok (eq e.key) w) →
    ∃ res, (Instr.findAsking kt0 a l i).run P w = .ok res w ∧ ((res = none ∧ ∀ e ∈ l, eq e.key = false) ∨ ∃ j e, res = some (i + j, e.val) ∧ l[j]? = some e ∧ eq e.key = true ∧ ∀ i e', i < j → l[i]? = some e' → eq e'.key = false)
  | [], i, _ => ⟨none, rfl, .inl ⟨rfl, by simp⟩⟩
  | e :: l, i, h => by
    have he := h e (by simp)
    cases hb : eq e.key with
    | true =>
      rw [hb] at he
      refine ⟨some (i, e.val), by rw [Instr.findAsking]; simp [he], .inr ⟨0, e, rfl, rfl, hb, fun i e' hi => by omega⟩⟩
    | false =>
      rw [hb] at he
      obtain ⟨res, h1, h2⟩ := findAsking_ok l (i + 1) fun e' he' => h e' (by simp [he'])
      refine ⟨res, by rw [Instr.findAsking]; simp [he, h1], ?_⟩
      rcases h2 with ⟨rfl, h3⟩ | ⟨j, e', rfl, h3, h4, h5⟩
      · exact .inl ⟨rfl, by simpa [hb] using h3⟩
      · refine .inr ⟨j + 1, e', by rw [show i + 1 + j = i + (j + 1) by omega], by simpa using h3, h4, ?_⟩
        intro i' e'' hi he''
        cases i' with
        | zero => simp only [List.getElem?_cons_zero, Option.some.injEq] at he''; rw [← he'']; exact hb
        | succ i' => exact h5 i' e'' (by omega) (by simpa using he'')

theorem ValOf.int {k : IntKind} {x : Int} {a : Value} (h : ValOf S w (.int k) x a) : a = .int k x := by
  have h : Rep S w (.int k) x [a] := h
  rw [Rep] at h; simpa using h
theorem ValOf.bool {x : Bool} {a : Value} (h : ValOf S w .bool x a) : a = .bool x := by
  have h : Rep S w .bool x [a] := h
  rw [Rep] at h; simpa using h
theorem ValOf.str {x : ByteArray} {a : Value} (h : ValOf S w .str x a) : a = .string x := by
  have h : Rep S w .str x [a] := h
  rw [Rep] at h; simpa using h

theorem RepRow.ints {k : IntKind} : ∀ {xs : List Int} {cs : List Value}, RepRow (Rep S w (.int k)) xs cs → cs = xs.map (.int k)
  | [], cs, h => h
  | x :: xs, cs, ⟨c, r, e, h1, h2⟩ => by
    rw [Rep] at h1
    rw [e, h1, RepRow.ints h2]; rfl

theorem KeyOk.int {kt0 : TypeId} {k : IntKind} (hu : P.underlying kt0 = some (.int k)) : KeyOk P kt0 (.int k) where
  refl := fun x => by simp [Ty.beq]
  check {S w x a em} h := by rw [ValOf.int h]; exact MapKept.run_checkKey (n := 9999) hu (show MapKept.IsKey (.int k) (.int k x) from rfl) em
  same {S w x y a b} h h' hb := by
    have e : x = y := by simpa [Ty.beq] using hb
    subst e
    rw [ValOf.int h, ValOf.int h']
    exact ⟨rfl, rfl, by simp [Instr.sameBits]⟩
  eql {S w x y a b} h h' := by
    rw [ValOf.int h, ValOf.int h']
    exact run_equalIn_int w 9999 kt0 k k x y hu
  find {S w x a} h := by
    rw [ValOf.int h]
    refine ⟨fun b => match b with | .int _ y => decide ((x : Int) = y) | _ => false, ?_, ?_⟩
    · intro y b hb; rw [ValOf.int hb]; rfl
    · intro l hl
      obtain ⟨res, h1, h2⟩ := findNow_ok (d := .int k) (a := .int k x) (eq := fun b => match b with | .int _ y => decide ((x : Int) = y) | _ => false) l 0 (by
        intro e he
        obtain ⟨y, hy⟩ := hl e he
        rw [ValOf.int hy]
        simp [Instr.sameNow]
        rfl)
      exact ⟨res, MapKept.run_findKey hu h1, by simpa using h2⟩

theorem KeyOk.str {kt0 : TypeId} (hu : P.underlying kt0 = some .string) : KeyOk P kt0 .str where
  refl := fun x => (MapKept.bytes_beq x x).2 rfl
  check {S w x a em} h := by rw [ValOf.str h]; exact MapKept.run_checkKey (n := 9999) hu (show MapKept.IsKey .string (.string x) from trivial) em
  same {S w x y a b} h h' hb := by
    have e : x = y := (MapKept.bytes_beq x y).1 hb
    subst e
    rw [ValOf.str h, ValOf.str h']
    exact ⟨rfl, rfl, by simp [Instr.sameBits, MapKept.bytes_beq]⟩
  eql {S w x y a b} h h' := by
    rw [ValOf.str h, ValOf.str h']
    have := run_equalIn_string w 9999 kt0 x y hu
    rw [← beq_toListBytes] at this
    exact this
  find {S w x a} h := by
    rw [ValOf.str h]
    refine ⟨fun b => match b with | .string y => x == y | _ => false, ?_, ?_⟩
    · intro y b hb; rw [ValOf.str hb]; rfl
    · intro l hl
      obtain ⟨res, h1, h2⟩ := findNow_ok (d := .string) (a := .string x) (eq := fun b => match b with | .string y => x == y | _ => false) l 0 (by
        intro e he
        obtain ⟨y, hy⟩ := hl e he
        rw [ValOf.str hy]
        simp [Instr.sameNow])
      exact ⟨res, MapKept.run_findKey hu h1, by simpa using h2⟩

theorem KeyOk.bool {kt0 : TypeId} (hu : P.underlying kt0 = some .bool) : KeyOk P kt0 .bool where
  refl := fun x => by simp [Ty.beq]
  check {S w x a em} h := by rw [ValOf.bool h]; exact MapKept.run_checkKey (n := 9999) hu (show MapKept.IsKey .bool (.bool x) from trivial) em
  same {S w x y a b} h h' hb := by
    have e : x = y := by simpa [Ty.beq] using hb
    subst e
    rw [ValOf.bool h, ValOf.bool h']
    exact ⟨rfl, rfl, by simp [Instr.sameBits]⟩
  eql {S w x y a b} h h' := by
    rw [ValOf.bool h, ValOf.bool h']
    exact run_equalIn_bool w 9999 kt0 x y hu
  find {S w x a} h := by
    rw [ValOf.bool h]
    refine ⟨fun b => match b with | .bool y => x == y | _ => false, ?_, ?_⟩
    · intro y b hb; rw [ValOf.bool hb]; rfl
    · intro l hl
      obtain ⟨res, h1, h2⟩ := findNow_ok (d := .bool) (a := .bool x) (eq := fun b => match b with | .bool y => x == y | _ => false) l 0 (by
        intro e he
        obtain ⟨y, hy⟩ := hl e he
        rw [ValOf.bool hy]
        simp [Instr.sameNow])
      exact ⟨res, MapKept.run_findKey hu h1, by simpa using h2⟩

theorem ValOf.ints {n : Nat} {k : IntKind} {x : List Int} {a : Value} (h : ValOf S w (.arr n (.int k)) x a) : a = .agg (x.map (.int k)).toArray ∧ x.length = n := by
  obtain ⟨cs, e, hl, hr⟩ := h
  rw [e, RepRow.ints hr]
  exact ⟨rfl, hl⟩

theorem run_part_int {e : TypeId} {k : IntKind} (hu : P.underlying e = some (.int k)) {x : List Int} {i : Nat} (hi : i < x.length) : (part e (x.map (.int k)).toArray i).run P w = .ok (.int k x[i]) w := by
  have h1 : (isAgg e).run P w = .ok false w := by simp [isAgg, run_underlying hu]
  simp [part, h1, hi]

theorem beq_ints {n : Nat} {k : IntKind} (x y : List Int) (hx : x.length = n) (hy : y.length = n) : (Ty.arr n (.int k)).beq x y = true ↔ x = y := by
  have hx0 : x.length = y.length := hx.trans hy.symm
  clear hx hy
  simp only [Ty.beq, Bool.and_eq_true, beq_iff_eq, List.all_eq_true]
  constructor
  · rintro ⟨hl, h⟩
    apply List.ext_getElem hx0
    intro i h1 h2
    have := h (x[i], y[i]) (by
      rw [List.mem_iff_getElem]
      exact ⟨i, by simp; omega, by simp⟩)
    simpa [Ty.beq] using this
  · rintro rfl
    refine ⟨rfl, ?_⟩
    rintro ⟨a, b⟩ hp
    rw [List.mem_iff_getElem] at hp
    obtain ⟨i, hi, he⟩ := hp
    simp only [List.getElem_zip, Prod.mk.injEq] at he
    obtain ⟨rfl, rfl⟩ := he
    exact decide_eq_true rfl

theorem eqItems_ints {e : TypeId} {k : IntKind} (hu : P.underlying e = some (.int k)) {x y : List Int} : ∀ (is : List Nat), (∀ i ∈ is, i < x.length ∧ i < y.length) →
    (Op.eqItems 9999 e 1 (x.map (.int k)).toArray (y.map (.int k)).toArray is).run P w = .ok (is.all fun i => x.getD i 0 == y.getD i 0) w
  | [], _ => by simp [Op.eqItems]
  | i :: is, h => by
    obtain ⟨h1, h2⟩ := h i (by simp)
    have ih := eqItems_ints hu is (x := x) (y := y) fun j hj => h j (by simp [hj])
    have p1 := run_part_int (P := P) (w := w) hu h1
    have p2 := run_part_int (P := P) (w := w) hu h2
    have p3 := run_equalIn_int w 9998 e k k x[i] y[i] hu
    simp only [Op.eqItems, Nat.mul_one, Sem.run_bind, p1, p2, p3, Result.andThen_ok]
    cases hb : x[i] == y[i] with
    | true => simp [ih, h1, h2, hb]
    | false => simp [h1, h2, hb]

theorem ints_refl {n : Nat} {k : IntKind} : ∀ x : List Int, (Ty.arr n (.int k)).beq x x = true
  | x => by
    have h : ∀ l : List Int, (l.zip l).all (fun p : Int × Int => (Ty.int k).beq p.1 p.2) = true := by
      intro l
      induction l with
      | nil => rfl
      | cons a l ih =>
        show ((Ty.int k).beq a a && (l.zip l).all _) = true
        rw [ih, Bool.and_true]
        show decide (a = a) = true
        exact decide_eq_true rfl
    show (x.length == x.length && _) = true
    rw [beq_self_eq_true, Bool.true_and]
    exact h x
theorem KeyOk.ints {kt0 e : TypeId} {n : Nat} {k : IntKind} (hu : P.underlying kt0 = some (.array n e)) (he : P.underlying e = some (.int k)) (hs : ∃ i, P.info? e = some i ∧ i.size = 1) : KeyOk P kt0 (.arr n (.int k)) := by
  obtain ⟨inf, hi, hsz⟩ := hs
  have hcell : P.cellsOf e = 1 := by simp [Program.cellsOf, hi, hsz]
  have heq : ∀ {S w} {x y : List Int} {a b}, ValOf S w (.arr n (.int k)) x a → ValOf S w (.arr n (.int k)) y b → (Op.equal kt0 a b).run P w = .ok ((Ty.arr n (.int k)).beq x y) w := by
    intro S w x y a b ha hb
    obtain ⟨rfl, hx⟩ := ValOf.ints ha
    obtain ⟨rfl, hy⟩ := ValOf.ints hb
    have h1 := run_equalIn_array (P := P) w 9999 (x.map (.int k)).toArray (y.map (.int k)).toArray hu hi
    rw [hcell, eqItems_ints he (List.range n) (fun i hi => by rw [List.mem_range] at hi; omega)] at h1
    have e1 : ((List.range n).all fun i => x.getD i 0 == y.getD i 0) = (Ty.arr n (.int k)).beq x y := by
      rw [Bool.eq_iff_iff, beq_ints x y hx hy]
      simp only [List.all_eq_true, List.mem_range, beq_iff_eq]
      constructor
      · intro h
        apply List.ext_getElem (hx.trans hy.symm)
        intro i h1 h2
        have := h i (by omega)
        simpa [h1, h2] using this
      · rintro rfl i _; rfl
    rw [e1] at h1
    exact h1
  refine ⟨fun x => ints_refl x, ?_, ?_, heq, ?_⟩
  · intro S w x a em h
    obtain ⟨rfl, hx⟩ := ValOf.ints h
    show (Instr.checkKey em (9999 + 1) kt0 _).run P w = _
    rw [Instr.checkKey]
    simp only [Sem.run_bind, run_underlying hu, Result.andThen_ok]
    simp only [Std.Legacy.Range.forIn_eq_forIn_range', Std.Legacy.Range.size, Nat.sub_zero, Nat.add_one_sub_one, Nat.div_one]
    have each : ∀ i ∈ List.range' 0 n, i < x.length := fun i hi => by rw [List.mem_range'] at hi; omega
    generalize List.range' 0 n = is at each
    have hso : (sizeOf e).run P w = .ok 1 w := by simp [sizeOf, typeInfo, hi, hsz]
    induction is with
    | nil => simp
    | cons j is ih =>
      have p1 := run_part_int (P := P) (w := w) he (each j (by simp))
      have p2 := MapKept.run_checkKey (P := P) (w := w) (n := 9998) he (show MapKept.IsKey (.int k) (.int k (x[j]'(each j (by simp)))) from rfl) em
      simp only [List.forIn_cons, Sem.run_bind, hso, Result.andThen_ok, Nat.mul_one, p1, p2, Sem.run_pure]
      exact ih (fun i hi => each i (by simp [hi]))
  · intro S w x y a b h h' hb
    obtain ⟨rfl, hx⟩ := ValOf.ints h
    obtain ⟨rfl, hy⟩ := ValOf.ints h'
    have e1 := (beq_ints x y hx hy).1 hb
    subst e1
    refine ⟨rfl, rfl, ?_⟩
    show Instr.sameBits (9999 + 1) _ _ = true
    rw [Instr.sameBits]
    simp only [BEq.rfl, Bool.true_and, List.all_eq_true]
    rintro ⟨u, v⟩ hp
    rw [List.mem_iff_getElem] at hp
    obtain ⟨i, hi, he⟩ := hp
    simp only [List.getElem_zip, Prod.mk.injEq] at he
    obtain ⟨rfl, rfl⟩ := he
    simp [Instr.sameBits]
  · intro S w x a h
    refine ⟨fun b => match b with | .agg ds => (Ty.arr n (.int k)).beq x (ds.toList.map fun v => match v with | .int _ z => z | _ => 0) | _ => false, ?_, ?_⟩
    · intro y b hb
      obtain ⟨rfl, hy⟩ := ValOf.ints hb
      simp [Function.comp_def]
    · intro l hl
      cases l with
      | nil => exact ⟨none, MapKept.run_findKey hu rfl, .inl ⟨rfl, by simp⟩⟩
      | cons e0 l0 =>
        obtain ⟨res, h1, h2⟩ := findAsking_ok (P := P) (w := w) (kt0 := kt0) (a := a) (eq := fun b => match b with | .agg ds => (Ty.arr n (.int k)).beq x (ds.toList.map fun v => match v with | .int _ z => z | _ => 0) | _ => false) (e0 :: l0) 0 (by
          intro e he
          obtain ⟨y, hy⟩ := hl e he
          rw [heq h hy]
          obtain ⟨hk, _⟩ := ValOf.ints hy
          rw [hk]
          simp [Function.comp_def])
        refine ⟨res, ?_, by simpa using h2⟩
        obtain ⟨rfl, _⟩ := ValOf.ints h
        have hno : Instr.findNow (.array n e) (.agg (x.map (.int k)).toArray) (e0 :: l0) 0 = none := by
          rw [Instr.findNow]; simp [Instr.sameNow]
        simp only [Instr.findKey, Sem.run_bind, run_underlying hu, Result.andThen_ok, hno]
        exact h1

/-- A key type's keys. -/
theorem keyIs_ok (hT : ∀ t, TiOk P T t) {L : Lib} (hL : L.ti = T) {t : Nat} {kt : Ty} (h : keyIs L t kt = true) : KeyOk P t kt := by
  subst hL
  unfold keyIs at h
  have hkind := (hT t).kind
  split at h
  · rename_i hk
    rw [hk] at hkind
    obtain ⟨_, hkind⟩ := hkind
    split at h
    · rename_i hs _
      cases hs with
      | mk hs =>
      rw [← hs] at hkind
      cases kt with
      | int k => exact KeyOk.int hkind
      | bool => exact KeyOk.bool hkind
      | str => exact KeyOk.str hkind
      | _ => cases h
    · cases h
  · rename_i n e hk
    rw [hk] at hkind
    obtain ⟨hu, hes, _, _, _⟩ := hkind
    split at h
    · rename_i k hp
      obtain ⟨hk', hty⟩ := plainTy_ok hp
      have hkind' := (hT e).kind
      rw [hk'] at hkind'
      obtain ⟨hpu, hkind'⟩ := hkind'
      rw [hty] at hkind'
      split at h
      · rename_i hs _
        cases hs with
        | mk hs =>
        rw [hs]
        obtain ⟨inf, h1, h2, _⟩ := (hT e).info hes
        obtain ⟨_, h3, _⟩ := (hT e).pure hpu
        rw [hty] at h3
        exact KeyOk.ints hu hkind' ⟨inf, h1, h2.trans h3.symm⟩
      · cases h
    · cases h
  · cases h

end
end Go.Pv

/- Operations of the reading against the model's: all that call nothing. -/
set_option linter.unusedVariables false
set_option linter.unusedSimpArgs false
namespace Go.Pv

section
variable {P : Program} {T : Nat → TI} {μ : Nat → Option At} {S : Nat → Prop} {w : World} {bl : List (Nat × Blk)} {nb : Nat}

theorem AV.take_rows {bl : List (Nat × Blk)} : ∀ {v : AV} {t : Ty} {x : t.den} {ks : List Nat}, AV.take bl t v = some (x, ks) → ∀ k ∈ ks, ∃ e xs, lk bl k = some (.row e xs) := by
  intro v
  induction v with
  | dat s y =>
    intro t x ks h
    rw [AV.take] at h
    split at h
    · cases h; intro k hk; simp at hk
    · cases h
  | own k =>
    intro t x ks h
    cases t with
    | sl e =>
      rw [AV.take] at h
      split at h
      · rename_i e' xs hk
        split at h
        · cases h
          intro j hj
          simp only [List.mem_singleton] at hj
          subst hj
          exact ⟨_, _, hk⟩
        · cases h
      · cases h
    | _ => simp [AV.take] at h
  | nil =>
    intro t x ks h
    cases t with
    | sl e => rw [AV.take] at h; cases h; intro k hk; simp at hk
    | _ => simp [AV.take] at h
  | pr a b iha ihb =>
    intro t x ks h
    cases t with
    | pr ta tb =>
      rw [AV.take] at h
      obtain ⟨⟨x1, k1⟩, h1, h⟩ := ob_some h
      obtain ⟨⟨x2, k2⟩, h2, h⟩ := ob_some h
      simp only [Option.some.injEq, Prod.mk.injEq] at h
      obtain ⟨_, rfl⟩ := h
      intro k hk
      rw [sapp_eq, List.mem_append] at hk
      rcases hk with hk | hk
      · exact iha h1 k hk
      · exact ihb h2 k hk
    | _ => simp [AV.take] at h
  | un =>
    intro t x ks h
    cases t with
    | un => rw [AV.take] at h; cases h; intro k hk; simp at hk
    | _ => simp [AV.take] at h
  | _ => intro t x ks h; cases t <;> simp [AV.take] at h

theorem kill_eq (ks : List Nat) (bl : List (Nat × Blk)) : kill ks bl = ks.map (fun k => (k, Blk.dead)) ++ bl := by
  induction ks with
  | nil => rfl
  | cons k r ih => rw [kill, ih]; rfl

/-- A value's datum, as a map's key or value. -/
theorem take_val {st : St} (hB : SimB μ S w st.bl st.nb) {v : AV} {t : Ty} {x : t.den} {ks : List Nat} {u : Value} (h : AV.take st.bl t v = some (x, ks)) (hv : RV μ S w v u) (hj : v ≠ .junk) (hc : ∀ x y, v ≠ .cons x y)
    {S' : Nat → Prop} (hS : ∀ b, S b → S' b) (hks : ∀ b, Of μ st.bl ks b → S' b) : ValOf S' w t x u := by
  obtain ⟨c1, c2, c3⟩ := hv.cells hj hc
  obtain ⟨g1, g2⟩ := AV.take_ok hB h c1 hS hks
  unfold ValOf
  rw [← g2]
  cases hg : v.agg with
  | true =>
    obtain ⟨cs, e⟩ := c2 hg
    subst e
    exact ⟨cs, rfl, by simpa [Value.cells] using g1⟩
  | false =>
    have := c3 hg
    rw [this] at g1
    exact g1

theorem ValOf.rv {t : Ty} {x : t.den} {v : Value} (h : ValOf S w t x v) : RV μ S w (.dat t x) v := by
  unfold ValOf at h
  refine RV.of ?_
  rw [AV.dat_agg]
  cases hg : t.agg with
  | true => rw [hg] at h; exact h
  | false => rw [hg] at h; exact h

theorem lookup_ok (hT : ∀ t, TiOk P T t) {L : Lib} (hL : L.ti = T) {st : St} (hB : SimB μ S w st.bl st.nb) {t k kt0 vt0 : Nat} {kt vt : Ty} {es : List (kt.den × vt.den)} (hk : (T t).k = .map kt0 vt0) (hkb : lk st.bl k = some (.map kt vt es))
    {x : kt.den} {a m : Value} (hm : RV μ S w (.mp k) m) (hx : ValOf S w kt x a) (hkey : keyIs L kt0 kt = true) (hp : (T vt0).pure = true) (hv : vt = (T vt0).ty) (ok : Bool) :
    ∃ v : Value, (Instr.lookup t m a ok).run P w = .ok (cond ok (.tuple #[v, .bool (mget kt vt es x).isSome]) v) w ∧ ValOf S w vt ((mget kt vt es x).getD vt.dflt) v := by
  have hko := keyIs_ok hT hL hkey
  have hkind := (hT t).kind
  rw [hk] at hkind
  obtain ⟨hu, _, _⟩ := hkind
  obtain ⟨p, hp', e⟩ := hm
  simp only [List.cons.injEq, and_true] at e
  subst e
  obtain ⟨q, hq, _, ents, clock, h1, h2⟩ := hB.blk k _ hkb
  rw [hp'] at hq; cases hq
  obtain ⟨res, hr, hres⟩ := find_ok (P := P) hko hx h2.1
  have hchk := hko.check (em := ents.isEmpty) hx
  obtain ⟨inf, z, hi, hz, hzr⟩ := (hT vt0).pval hp
  rcases hres with ⟨rfl, ⟨hg, _⟩, _⟩ | ⟨j, e, p', rfl, hj, _, _, hval, _, hg, _⟩
  · refine ⟨z, ?_, ?_⟩
    · rw [hg]
      cases ok <;> simp [Instr.lookup, run_underlying hu, MapKept.run_getObj_map h1, hchk, hr, zeroValue, typeInfo, hi, hz]
    · rw [hg]
      subst hv
      exact hzr S w
  · refine ⟨e.val, ?_, ?_⟩
    · rw [hg]
      cases ok <;> simp [Instr.lookup, run_underlying hu, MapKept.run_getObj_map h1, hchk, hr]
    · rw [hg]; exact hval

theorem mapUpdate_ok (hT : ∀ t, TiOk P T t) {L : Lib} (hL : L.ti = T) {bl : List (Nat × Blk)} {nb : Nat} (hB : SimB μ S w bl nb) {t k kt0 vt0 : Nat} {kt vt : Ty} {es : List (kt.den × vt.den)} (hk : (T t).k = .map kt0 vt0) (hkb : lk bl k = some (.map kt vt es))
    {x : kt.den} {y : vt.den} {a b m : Value} (hm : RV μ S w (.mp k) m) (hx : ValOf S w kt x a) (hy : ValOf S w vt y b) (hkey : keyIs L kt0 kt = true) :
    ∃ w', (Instr.mapUpdate t m a b).run P w = .ok () w' ∧ StepB μ S w bl nb μ S w' ((k, .map kt vt (mset kt vt es x y)) :: bl) nb := by
  have hko := keyIs_ok hT hL hkey
  have hkind := (hT t).kind
  rw [hk] at hkind
  obtain ⟨hu, _, _⟩ := hkind
  obtain ⟨p, hp', e⟩ := hm
  simp only [List.cons.injEq, and_true] at e
  subst e
  obtain ⟨q, hq, hnl, ents, clock, h1, h2⟩ := hB.blk k _ hkb
  rw [hp'] at hq; cases hq
  obtain ⟨res, hr, hres⟩ := find_ok (P := P) hko hx h2.1
  have hchk := hko.check (em := false) hx
  have fin : ∀ (o' : Obj), (∀ w', w'.heap = w.heap.setIfInBounds p.b o' → (∀ b, S b → w'.heap[b]? = w.heap[b]?) → RB μ S w' k (.map kt vt (mset kt vt es x y))) →
      StepB μ S w bl nb μ S { w with heap := w.heap.setIfInBounds p.b o' } ((k, .map kt vt (mset kt vt es x y)) :: bl) nb := by
    intro o' hrb
    have hs := MapKept.heap_set (o' := o') h1
    have hpl : Liv μ bl p.b := ⟨k, _, p, hkb, by simp, hp', hnl, rfl⟩
    exact StepB.write hB hkb (by simp) hp' hnl rfl rfl ⟨rfl, Nat.le_refl _⟩ (by simp) (fun b hb => hs.2 b hb) (hrb _ rfl (fun b hb => hs.2 b (fun e => (hB.old _ hpl).2 (e ▸ hb))))
  have new : ∀ {w' : World} {o' : Obj}, w'.heap = w.heap.setIfInBounds p.b o' → w'.heap[p.b]? = some o' := by
    intro w' o' h
    rw [h]; exact (MapKept.heap_set h1).1
  rcases hres with ⟨rfl, ⟨_, hset⟩, hne⟩ | ⟨j, e, p', rfl, hj, hpj, hky, hval, hb, _, hset⟩
  · refine ⟨_, ?_, fin (.map (ents.push { key := a, val := b, born := clock }) (clock + 1)) ?_⟩
    · simp [Instr.mapUpdate, run_underlying hu, MapKept.run_getObj_map h1, hchk, hr, MapKept.run_setObj_map _ h1]
    · intro w' hw hS
      refine ⟨p, hp', hnl, _, _, new hw, ?_⟩
      rw [hset, Array.toList_push]
      exact ⟨REnts.push (hx.move (fun _ h => h) hS) (hy.move (fun _ h => h) hS) (h2.1.move (fun _ h => h) hS), MapKept.stamped_push h2.2 hne⟩
  · obtain ⟨hxy, hab, hsame⟩ := hko.same hx hky hb
    have hj' : ents[j]? = some e := by simpa using hj
    have hstay : (Instr.keyThatStays e.key a).run P w = .ok a w := by simp [Instr.keyThatStays, hsame]
    refine ⟨_, ?_, fin (.map (ents.modify j fun e => { e with key := a, val := b }) clock) ?_⟩
    · simp [Instr.mapUpdate, run_underlying hu, MapKept.run_getObj_map h1, hchk, hr, hj', hstay, MapKept.run_setObj_map _ h1]
    · intro w' hw hS
      refine ⟨p, hp', hnl, _, _, new hw, ?_⟩
      rw [hset, Array.toList_modify]
      have e1 : ents.toList.modify j (fun e => { e with key := a, val := b }) = ents.toList.set j { e with key := a, val := b } := by
        apply List.ext_getElem?
        intro i
        rw [List.getElem?_modify, List.getElem?_set]
        by_cases hi : j = i
        · subst hi
          simp [hj']
          have := (Array.getElem?_eq_some_iff.1 hj').1
          simp [this]
        · simp [hi]
      rw [e1]
      refine ⟨REnts.set (hxy ▸ hx.move (fun _ h => h) hS) (hy.move (fun _ h => h) hS) (h2.1.move (fun _ h => h) hS), MapKept.stamped_modify h2.2 j _ (fun _ _ => rfl) fun e' _ he' => ?_⟩
      rw [hj'] at he'
      cases he'
      exact hab

theorem ksame_eq' {a b : IntKind} (h : (ksame a b).isSome = true) : a = b := by
  cases hk : ksame a b with
  | none => rw [hk] at h; cases h
  | some x => exact x.out
theorem intAt_ok {t : TypeId} {k : IntKind} (h : intAt P t k = true) : P.underlying t = some (.int k) := by
  unfold intAt at h
  split at h
  · rename_i k' hu
    rw [hu, ksame_eq' h]
  · cases h
theorem run_part_at {e : TypeId} {k : IntKind} (hu : P.underlying e = some (.int k)) {xs : Array Value} {o : Nat} {v : Value} {r : List Value} (h : xs.toList.drop o = v :: r) : (part e xs o).run P w = .ok v w ∧ xs.toList.drop (o + 1) = r := by
  have hi : o < xs.toList.length := by
    rcases Nat.lt_or_ge o xs.toList.length with g | g
    · exact g
    · rw [List.drop_eq_nil_of_le g] at h; cases h
  rw [List.drop_eq_getElem_cons hi] at h
  injection h with e1 e2
  have h1 : (isAgg e).run P w = .ok false w := by simp [isAgg, run_underlying hu]
  have h2 : xs[o]? = some v := by
    rw [← Array.getElem?_toList, List.getElem?_eq_getElem hi, e1]
  exact ⟨by simp [part, h1, h2], e2⟩
theorem eqFields_ok {d : Nat} {xs ys : Array Value} : ∀ (fs : List Field) (o : Nat) (t : Ty), eqsB P o fs t = true → ∀ (x y : t.den) (cs ds : List Value), Rep S w t x cs → Rep S w t y ds → xs.toList.drop o = cs → ys.toList.drop o = ds →
    (Op.eqFields (d + 1) xs ys fs).run P w = .ok (t.beq x y) w
  | [], o, t, h, x, y, cs, ds, h1, h2, h3, h4 => by
    cases t <;> first | (simp [eqsB] at h; done) | simp [Op.eqFields, Ty.beq]
  | f :: r, o, t, h, x, y, cs, ds, h1, h2, h3, h4 => by
    cases t with
    | int k =>
      simp only [eqsB, Bool.and_eq_true, bne_iff_ne] at h
      obtain ⟨⟨⟨g0, g1⟩, g2⟩, g3⟩ := h
      have hu := intAt_ok g3
      have hr : r = [] := List.isEmpty_iff.1 g0
      subst hr
      rw [Rep] at h1 h2
      rw [h1] at h3
      rw [h2] at h4
      have e1 := (run_part_at (P := P) (w := w) hu h3).1
      have e2 := (run_part_at (P := P) (w := w) hu h4).1
      have e3 := run_equalIn_int (P := P) w d f.type k k x y hu
      unfold Op.eqFields
      rw [if_pos g2]
      simp only [Sem.run_bind, beq_true g1, e1, e2, e3, Result.andThen_ok, Op.eqFields, Ty.beq]
      by_cases hb : (x : Int) = y <;> simp [hb]
    | pr a b =>
      cases a with
      | int k =>
        simp only [eqsB, Bool.and_eq_true, bne_iff_ne] at h
        obtain ⟨⟨⟨g1, g2⟩, g3⟩, g4⟩ := h
        have hu := intAt_ok g3
        obtain ⟨c1, c2, q1, q2, q3⟩ := h1
        obtain ⟨d1, d2, r1, r2, r3⟩ := h2
        rw [Rep] at q2 r2
        rw [q1, q2] at h3
        rw [r1, r2] at h4
        obtain ⟨e1, e1'⟩ := run_part_at (P := P) (w := w) hu h3
        obtain ⟨e2, e2'⟩ := run_part_at (P := P) (w := w) hu h4
        have e3 := run_equalIn_int (P := P) w d f.type k k x.1 y.1 hu
        have ih := eqFields_ok (d := d) r (o + 1) b g4 x.2 y.2 c2 d2 q3 r3 e1' e2'
        unfold Op.eqFields
        rw [if_pos g2]
        simp only [Sem.run_bind, beq_true g1, e1, e2, e3, Result.andThen_ok, ih, Ty.beq]
        by_cases hb : (x.1 : Int) = y.1 <;> simp [hb, ih]
      | _ => simp [eqsB] at h
    | _ => simp [eqsB] at h
theorem eqIs_ok (hT : ∀ t, TiOk P T t) {L : Lib} (hL : L.ti = T) {t : TypeId} {s1 s2 : Ty} (h : eqIs L t (.pr s1 s2) = true) {x y : (Ty.pr s1 s2).den} {cs ds : List Value} (hx : Rep S w (.pr s1 s2) x cs) (hy : Rep S w (.pr s1 s2) y ds) :
    P.eqGuardType P.depth t = false ∧ (Op.equal t (.agg cs.toArray) (.agg ds.toArray)).run P w = .ok ((Ty.pr s1 s2).beq x y) w := by
  subst hL
  unfold eqIs at h
  have hkind := (hT t).kind
  split at h
  · rename_i fs hk
    rw [hk] at hkind
    obtain ⟨fields, hu, _, _, _, hn⟩ := hkind
    simp only [Bool.and_eq_true] at h
    obtain ⟨⟨h1, h2⟩, h3⟩ := h
    obtain ⟨n1, n2, n3⟩ := hn h1 h2
    split at h3
    · rename_i hs _
      have hty : Ty.pr s1 s2 = (L.ti t).ty := hs.out
      rw [← hty] at n3
      have hf : P.fieldsOf t = fields := by unfold Program.fieldsOf; rw [hu]
      refine ⟨n2, ?_⟩
      have := run_equalIn_struct (P := P) w 9999 t cs.toArray ds.toArray (by rw [hf]; exact hu) n1
      rw [hf] at this
      exact this.trans (eqFields_ok (d := 9998) fields.toList 0 _ n3 x y cs ds hx hy (by simp) (by simp))
    · cases h3
  · cases h

theorem isSlice_ok (hT : ∀ t, TiOk P T t) {L : Lib} (hL : L.ti = T) {t : TypeId} (h : isSlice L t = true) : ∃ et, P.underlying t = some (.slice et) := by
  subst hL
  unfold isSlice at h
  have hk := (hT t).kind
  split at h
  · rename_i et he
    rw [he] at hk
    exact ⟨et, hk.1⟩
  · cases h
theorem run_equalIn_nil (w : World) (d : Nat) (t e : TypeId) (a : Option Addr) (n c n' c' : Nat) (h : P.underlying t = some (.slice e)) :
    (Op.equalIn (d + 1) t (.slice a n c) (.slice none n' c')).run P w = .ok a.isNone w := by
  cases a <;> simp [Op.equalIn, run_underlying h]
theorem run_eql_nil (w : World) (t e : TypeId) (a : Option Addr) (n c n' c' : Nat) (h : P.underlying t = some (.slice e)) :
    (binOp .eql t (.slice a n c) (.slice none n' c')).run P w = .ok (.bool a.isNone) w := by
  simp only [binOp]
  simp [Op.equal, Op.maxDepth, run_equalIn_nil w 9999 t e a n c n' c' h]
theorem run_neq_nil (w : World) (t e : TypeId) (a : Option Addr) (n c n' c' : Nat) (h : P.underlying t = some (.slice e)) :
    (binOp .neq t (.slice a n c) (.slice none n' c')).run P w = .ok (.bool (!a.isNone)) w := by
  simp only [binOp]
  simp [Op.equal, Op.maxDepth, run_equalIn_nil w 9999 t e a n c n' c' h]

theorem binAV_ok {R : Type} {op : BinOp} {a b : AV} {x y : Value} {K : AV → Option R} {r : R} (hT : ∀ t, TiOk P T t) {L : Lib} (hL : L.ti = T) {t : TypeId} (h : binAV L op t a b K = some r) (ha : RV μ S w a x) (hb : RV μ S w b y) (p q : Operand) :
    ∃ u v, K u = some r ∧ (eqGuard op t p q x y).run P w = .ok () w ∧ (binOp op t x y).run P w = .ok v w ∧ RV μ S w u v := by
  have guard : (∀ z, x ≠ .agg z) → x ≠ .nilIface → (eqGuard op t p q x y).run P w = .ok () w := by
    intro h1 h2
    unfold eqGuard
    cases op <;> simp <;> (cases x <;> simp at h1 h2 ⊢)
  unfold binAV at h
  split at h
  · rename_i j m k n
    have ha := ha.int_inv; have hb := hb.int_inv
    subst ha; subst hb
    have g := guard (by simp) (by simp)
    split at h
    · obtain ⟨u, v, h1, h2, h3⟩ := shiftI_ok (P := P) (k := k) (.inl rfl) h
      exact ⟨u, v, h1, g, h2 t, h3⟩
    · obtain ⟨u, v, h1, h2, h3⟩ := shiftI_ok (P := P) (k := k) (.inr rfl) h
      exact ⟨u, v, h1, g, h2 t, h3⟩
    · split at h
      · rename_i hs _
        cases hs with
        | mk hs =>
        cases hs
        obtain ⟨u, v, h1, _, h2, h3⟩ := binI_ok (P := P) (μ := μ) (S := S) (w := w) h
        exact ⟨u, v, h1, g, h2 t, h3⟩
      · cases h
  · rename_i c d
    have ha := ha.bool_inv; have hb := hb.bool_inv
    subst ha; subst hb
    have g := guard (by simp) (by simp)
    split at h
    · rename_i hp
      obtain ⟨hk, hty⟩ := plainTy_ok hp
      subst hL
      have hkind := (hT t).kind
      rw [hk] at hkind
      obtain ⟨_, hkind⟩ := hkind
      rw [hty] at hkind
      have hkind : P.underlying t = some .bool := hkind
      exact ⟨_, _, h, g, by simp [binOp, run_equal_bool w t c d hkind], RV.bool _⟩
    · rename_i hp
      obtain ⟨hk, hty⟩ := plainTy_ok hp
      subst hL
      have hkind := (hT t).kind
      rw [hk] at hkind
      obtain ⟨_, hkind⟩ := hkind
      rw [hty] at hkind
      have hkind : P.underlying t = some .bool := hkind
      exact ⟨_, _, h, g, by simp [binOp, run_equal_bool w t c d hkind], RV.bool _⟩
    · cases h
  · rename_i n s c m u d
    have e1 := ha; have e2 := hb
    split at h
    · rename Is _ _ => hs
      cases hs with
      | mk hs =>
      cases hs
      obtain ⟨hk, h⟩ := condT h
      have hko := keyIs_ok hT hL hk
      have hag : P.eqGuardType P.depth t = false := by
        subst hL
        unfold keyIs at hk
        have hkind := (hT t).kind
        split at hk
        · split at hk
          · cases hk
          · cases hk
        · rename_i n e hkk
          exact (hT t).guard n e hkk
        · cases hk
      have hx : ValOf S w (.arr n s) c x := ha
      have hy : ValOf S w (.arr n s) d y := hb
      have heq := hko.eql hx hy
      obtain ⟨xs, rfl, _⟩ := ha.arr_inv
      obtain ⟨ys, rfl, _⟩ := hb.arr_inv
      have g : (eqGuard op t p q (.agg xs.toArray) (.agg ys.toArray)).run P w = .ok () w := by
        unfold eqGuard
        cases op <;> simp [hag]
      split at h
      · exact ⟨_, _, h, g, by simp only [binOp, Sem.run_bind, heq, Result.andThen_ok, Sem.run_pure]; rfl, RV.bool _⟩
      · exact ⟨_, _, h, g, by simp only [binOp, Sem.run_bind, heq, Result.andThen_ok, Sem.run_pure]; rfl, RV.bool _⟩
      · cases h
    · cases h
  · rename_i s1 s2 c u1 u2 d
    split at h
    · rename Is _ _ => hs
      cases hs with
      | mk hs =>
      cases hs
      obtain ⟨hk, h⟩ := condT h
      have hx : ValOf S w (.pr s1 s2) c x := ha
      have hy : ValOf S w (.pr s1 s2) d y := hb
      obtain ⟨cs, rfl, hx⟩ := hx
      obtain ⟨ds, rfl, hy⟩ := hy
      obtain ⟨hag, heq⟩ := eqIs_ok hT hL hk hx hy
      have g : (eqGuard op t p q (.agg cs.toArray) (.agg ds.toArray)).run P w = .ok () w := by
        unfold eqGuard
        cases op <;> simp [hag]
      split at h
      · exact ⟨_, _, h, g, by simp only [binOp, Sem.run_bind, heq, Result.andThen_ok, Sem.run_pure]; rfl, RV.bool _⟩
      · exact ⟨_, _, h, g, by simp only [binOp, Sem.run_bind, heq, Result.andThen_ok, Sem.run_pure]; rfl, RV.bool _⟩
      · cases h
    · cases h
  · rename_i c d
    have ha := ha.str_inv; have hb := hb.str_inv
    subst ha; subst hb
    have g := guard (by simp) (by simp)
    split at h
    · split at h
      · rename_i hc
        refine ⟨_, _, h, g, ?_, RV.str _⟩
        have : ¬ ((c.size + d.size : Nat) : Int) > IntKind.i64.max := by
          have : IntKind.i64.max = 9223372036854775807 := rfl
          omega
        simp [binOp, Op.stringOp]
        omega
      · cases h
    · exact ⟨_, _, h, g, by simp [binOp, Op.stringOp], RV.bool _⟩
    · exact ⟨_, _, h, g, by simp [binOp, Op.stringOp], RV.bool _⟩
    · cases h
  · rename_i e c
    obtain ⟨hk, h⟩ := condT h
    obtain ⟨et, hu⟩ := isSlice_ok hT hL hk
    obtain ⟨A, cap, e1, h2, h3⟩ := ha.to (by simp) (by simp)
    have e2 := hb.to (by simp) (by simp)
    have e2 : [y] = [Value.slice none 0 0] := e2
    simp only [List.cons.injEq, and_true] at e1 e2
    subst e1 e2
    have g := guard (by simp) (by simp)
    split at h
    · split at h
      · rename_i h0
        obtain ⟨b, o, ds, rfl, _⟩ := h3 h0
        exact ⟨_, _, h, g, run_eql_nil w t et _ _ _ _ _ hu, RV.bool _⟩
      · cases h
    · split at h
      · rename_i h0
        obtain ⟨b, o, ds, rfl, _⟩ := h3 h0
        exact ⟨_, _, h, g, run_neq_nil w t et _ _ _ _ _ hu, RV.bool _⟩
      · cases h
    · cases h
  · obtain ⟨hk, h⟩ := condT h
    obtain ⟨et, hu⟩ := isSlice_ok hT hL hk
    have e1 : [x] = [Value.slice none 0 0] := ha.to (by simp) (by simp)
    have e2 : [y] = [Value.slice none 0 0] := hb.to (by simp) (by simp)
    simp only [List.cons.injEq, and_true] at e1 e2
    subst e1 e2
    have g := guard (by simp) (by simp)
    split at h
    · exact ⟨_, _, h, g, run_eql_nil w t et _ _ _ _ _ hu, RV.bool _⟩
    · exact ⟨_, _, h, g, run_neq_nil w t et _ _ _ _ _ hu, RV.bool _⟩
    · cases h
  · cases h

theorem run_equalIn_inil {t : TypeId} {ms : Array (String × TypeId)} (hu : P.underlying t = some (.interface ms)) (d : Nat) (w : World) : (Op.equalIn (d + 1) t .nilIface .nilIface).run P w = .ok true w := by
  simp [Op.equalIn, underlying, hu]
theorem run_equalIn_iface {t : TypeId} {ms : Array (String × TypeId)} (hu : P.underlying t = some (.interface ms)) (d : Nat) (t' : TypeId) (v' : Value) (w : World) : (Op.equalIn (d + 1) t (.iface t' v') .nilIface).run P w = .ok false w := by
  simp [Op.equalIn, underlying, hu]
theorem run_equalIn_pnil {t e : TypeId} (hu : P.underlying t = some (.pointer e)) (d : Nat) (z : Option Addr) (w : World) : (Op.equalIn (d + 1) t (.pointer z) (.pointer none)).run P w = .ok z.isNone w := by
  cases z <;> simp [Op.equalIn, underlying, hu]
theorem nilop_ok {R : Type} {op : BinOp} {b : Bool} {K : AV → Option R} {r : R} {t : TypeId} {x y : Value} (p q : Operand) (h : nilop op b K = some r) (hE : (Op.equal t x y).run P w = .ok b w)
    (hg : ∀ op, (eqGuard op t p q x y).run P w = .ok () w) (h1 : (binOp .eql t x y).run P w = (do pure (.bool (← Op.equal t x y)) : Sem Value).run P w) (h2 : (binOp .neq t x y).run P w = (do pure (.bool (!(← Op.equal t x y))) : Sem Value).run P w) :
    ∃ u v, K u = some r ∧ (eqGuard op t p q x y).run P w = .ok () w ∧ (binOp op t x y).run P w = .ok v w ∧ RV μ S w u v := by
  unfold nilop at h
  split at h
  · refine ⟨_, .bool b, h, hg _, ?_, RV.bool _⟩
    rw [h1]
    simp [Sem.run_bind, hE]
  · refine ⟨_, .bool (!b), h, hg _, ?_, RV.bool _⟩
    rw [h2]
    simp [Sem.run_bind, hE]
  · cases h
theorem errRep {n : Ty.err.den} {x : Value} (h : RV μ S w (.dat .err n) x) : (decide ((n : Int) = 0) = true ∧ x = .nilIface) ∨ (decide ((n : Int) = 0) = false ∧ ∃ t v, x = .iface t v) := by
  have hr : Rep S w .err n [x] := h
  have hr : ((n : Int) = 0 ∧ [x] = [.nilIface]) ∨ ((0 : Int) < n ∧ [x] = [.iface errTid (.agg #[.int .i64 n])]) ∨ ((n : Int) < 0 ∧ ∃ t v, [x] = [.iface t v]) := hr
  rcases hr with ⟨h1, h2⟩ | ⟨h1, h2⟩ | ⟨h1, t', v', h2⟩
  · exact .inl ⟨decide_eq_true h1, by simpa using h2⟩
  · exact .inr ⟨decide_eq_false (fun e => by rw [e] at h1; exact absurd h1 (by decide)), _, _, by simpa using h2⟩
  · exact .inr ⟨decide_eq_false (fun e => by rw [e] at h1; exact absurd h1 (by decide)), _, _, by simpa using h2⟩
theorem nilcmp_ok {R : Type} {op : BinOp} {a : AV} {b : Bool} {x : Value} {K : AV → Option R} {r : R} (hT : ∀ t, TiOk P T t) {L : Lib} (hL : L.ti = T) {t : TypeId} (h : nilcmp L op t b a K = some r) (ha : RV μ S w a x) (p : Operand) {q : Operand} (hq : nilOf q = some b) (A : Act) :
    ∃ u v, K u = some r ∧ (eqGuard op t p q x (A.eval q)).run P w = .ok () w ∧ (binOp op t x (A.eval q)).run P w = .ok v w ∧ RV μ S w u v := by
  subst hL
  have hk := (hT t).kind
  unfold nilcmp at h
  split at h
  · rename_i hkk
    rw [hkk] at hk
    obtain ⟨ms, hu⟩ := hk
    have hq' : q = .const .nilIface := by
      unfold nilOf at hq
      split at hq <;> first | rfl | cases hq
    subst hq'
    split at h
    · have hA : A.eval (.const .nilIface) = .nilIface := rfl
      rw [hA]
      rcases errRep ha with ⟨e, rfl⟩ | ⟨e, t', v', rfl⟩
      · rw [e] at h
        exact nilop_ok p (.const .nilIface) h (run_equalIn_inil hu 9999 w) (fun op => by cases op <;> simp [eqGuard]) rfl rfl
      · rw [e] at h
        exact nilop_ok p (.const .nilIface) h (run_equalIn_iface hu 9999 t' v' w) (fun op => by cases op <;> simp [eqGuard]) rfl rfl
    · cases h
  · rename_i e hkk
    rw [hkk] at hk
    have hu : P.underlying t = some (.pointer e) := hk
    have hq' : q = .const (.pointer none) := by
      unfold nilOf at hq
      split at hq <;> first | rfl | cases hq
    subst hq'
    have hA : A.eval (.const (.pointer none)) = .pointer none := rfl
    rw [hA]
    split at h
    · obtain ⟨p', _, rfl⟩ := ha.ptr_inv
      exact nilop_ok p (.const (.pointer none)) h (run_equalIn_pnil hu 9999 _ w) (fun op => by cases op <;> simp [eqGuard]) rfl rfl
    · have hr : Rep S w .np () [x] := ha
      have hr : [x] = [.pointer none] := hr
      obtain rfl : x = .pointer none := by simpa using hr
      exact nilop_ok p (.const (.pointer none)) h (run_equalIn_pnil hu 9999 _ w) (fun op => by cases op <;> simp [eqGuard]) rfl rfl
    · cases h
  · cases h
theorem errOf_ok {a : AV} {n : Int} {x : Value} (h : errOf a = some n) (ha : RV μ S w a x) : x = .agg #[.int .i64 n] := by
  unfold errOf at h
  split at h
  · rename_i y
    cases h
    obtain ⟨cs, rfl, c, r, e, h1, h2⟩ := ha
    have h1 : c = [.int .i64 y.1] := h1
    have h2 : r = [] := h2
    subst h1; subst h2; subst e; rfl
  · cases h
    obtain ⟨cs, rfl, c, r, e, h1, h2⟩ := ha
    have h1 : c = [.int .i64 n] := h1
    have h2 : r = [] := h2
    subst h1; subst h2; subst e; rfl
  · cases h

end
end Go.Pv

/- One operation that calls nothing. -/
set_option linter.unusedVariables false
set_option linter.unusedSimpArgs false
namespace Go.Pv

section
variable {P : Program} {T : Nat → TI} {μ : Nat → Option At} {S : Nat → Prop} {w : World}

theorem RX.item {a : AV} {v : Value} (h : RV μ S w a v) (hj : a ≠ .junk) (hc : ∀ x y, a ≠ .cons x y) : cond a.agg (∃ cs : List Value, v = .agg cs.toArray ∧ RX μ S w false a cs) (RX μ S w false a [v]) := h.to hj hc

theorem opds_ok {st : St} {a : Act} (hf : SimF μ S w st.fr a) : ∀ {xs : List Operand} {c : AV}, opdsOf st xs = some c → RX μ S w true c (xs.map a.eval)
  | [], c, h => by rw [opdsOf] at h; cases h; rfl
  | x :: r, c, h => by
    rw [opdsOf] at h
    obtain ⟨v, hv, h⟩ := ob_some h
    obtain ⟨u, hu, h⟩ := ob_some h
    cases h
    obtain ⟨h1, h2, h3⟩ := St.opd_ok hf hv
    exact ⟨_, _, rfl, RX.item h1 h2 h3, opds_ok hf hu⟩

theorem RL.nth : ∀ {v : AV} {i : Nat} {u : AV} {vs : List Value}, v.nth i = some u → RX μ S w true v vs → ∃ d, vs[i]? = some d ∧ RV μ S w u d := by
  intro v
  induction v with
  | cons a b iha ihb =>
    intro i u vs h hr
    obtain ⟨d, r, e, h1, h2⟩ := hr
    cases i with
    | zero => rw [AV.nth] at h; cases h; subst e; exact ⟨d, rfl, RV.of h1⟩
    | succ i => rw [AV.nth] at h; subst e; obtain ⟨d', g1, g2⟩ := ihb (vs := r) h h2; exact ⟨d', by simpa using g1, g2⟩
  | _ => intro i u vs h; cases i <;> simp [AV.nth] at h

theorem ite_none {α : Type} {c : Prop} [Decidable c] {o : Option α} {r : α} (h : (if c then o else none) = some r) : c ∧ o = some r := by
  split at h
  · rename_i hc; exact ⟨hc, h⟩
  · cases h

theorem mapSet_ok {R : Type} (hT : ∀ t, TiOk P T t) {L : Lib} (hL : L.ti = T) {st : St} (hB : SimB μ S w st.bl st.nb) {a : Act} (hf : SimF μ S w st.fr a) {o : Oper} {K : St → Option R} {r : R} {t : TypeId} {m k v : Operand}
    (h : (ob (st.opd m) fun m => ob (st.opd k) fun kv => ob (st.opd v) fun vv => match m, (L.ti t).k with
    | .mp k, .map kt0 _ => match lk st.bl k with
      | some (.map kt vt es) => ob (AV.take st.bl kt kv) fun x => ob (AV.take st.bl vt vv) fun y => cond (and3 (sempty x.2) (keyIs L kt0 kt) true)
          (K (St.put ⟨st.fr, (k, .map kt vt (mset kt vt es x.1 y.1)) :: kill y.2 st.bl, st.nb⟩ o.dst .junk)) none
      | _ => none
    | _, _ => none) = some r) :
    ∃ ε S' w', K (St.put ⟨st.fr, ε ++ st.bl, st.nb⟩ o.dst .junk) = some r ∧ (Instr.mapUpdate t (a.eval m) (a.eval k) (a.eval v)).run P w = .ok () w' ∧ StepB μ S w st.bl st.nb μ S' w' (ε ++ st.bl) st.nb := by
  subst hL
  obtain ⟨mv, hm, h⟩ := ob_some h
  obtain ⟨kv, hk, h⟩ := ob_some h
  obtain ⟨vv, hv, h⟩ := ob_some h
  have hrm := (St.opd_ok hf hm).1
  obtain ⟨hrk, hjk, hck⟩ := St.opd_ok hf hk
  obtain ⟨hrv, hjv, hcv⟩ := St.opd_ok hf hv
  split at h
  · rename_i kk kt0 vt0 hkt _ _
    split at h
    · rename_i kt vt es hkb
      obtain ⟨⟨x, ks⟩, hx, h⟩ := ob_some h
      obtain ⟨⟨y, gs⟩, hy, h⟩ := ob_some h
      obtain ⟨hc, h⟩ := condT h
      obtain ⟨c1, c2, _⟩ := and3_true hc
      cases ks with
      | cons _ _ => cases c1
      | nil =>
      have hkill := StepB.kill hB gs
      have hkx := take_val hB hx hrk hjk hck (S' := fun b => S b ∨ Of μ st.bl gs b) (fun _ h => .inl h) (fun b hb => by obtain ⟨k, hk, _⟩ := hb; simp at hk)
      have hky := take_val hB hy hrv hjv hcv (S' := fun b => S b ∨ Of μ st.bl gs b) (fun _ h => .inl h) (fun b hb => .inr hb)
      have hkn : lk (kill gs st.bl) kk = some (.map kt vt es) := by
        have hnot : kk ∉ gs := fun hin => by
          obtain ⟨e, xs, hrow⟩ := AV.take_rows hy kk hin
          rw [hkb] at hrow; cases hrow
        exact lk_kill_not hkb hnot
      obtain ⟨w', h1, h2⟩ := mapUpdate_ok (P := P) hT rfl hkill.1 hkt hkn (hrm.step hB hkill) hkx hky c2
      refine ⟨(kk, .map kt vt (mset kt vt es x y)) :: gs.map (fun k => (k, Blk.dead)), (fun b => S b ∨ Of μ st.bl gs b), w', ?_, h1, ?_⟩
      · rw [List.cons_append, ← kill_eq]; exact h
      · rw [List.cons_append, ← kill_eq]; exact hkill.trans h2
    · cases h
  · cases h

theorem snth_eq {α : Type} : ∀ (l : List α) (i : Nat), snth l i = l[i]?
  | [], _ => rfl
  | _ :: _, 0 => rfl
  | _ :: l, i + 1 => by rw [snth, snth_eq l]; rfl

theorem build_ok {R : Type} (hT : ∀ t, TiOk P T t) {L : Lib} (hL : L.ti = T) {st : St} (hB : SimB μ S w st.bl st.nb) {a : Act} (hf : SimF μ S w st.fr a) {o : Oper} {K : St → Option R} {r : R} {t : TypeId} {parts : Array (Nat × Operand)}
    (h : (match (L.ti t).k with
    | .struct fs => ob (known (some (L.ti t).zero)) fun z => ob (buildAV L st fs z parts.toList) fun v => K (st.put o.dst v)
    | .array n _ => match (L.ti t).ty with
      | .arr _ e => cond (L.ti t).pure (ob (buildArr st e n (List.replicate n e.dflt) parts.toList) fun xs => K (st.put o.dst (.dat (.arr n e) xs))) none
      | _ => none
    | _ => none) = some r) :
    ∃ u v, K (st.put o.dst u) = some r ∧ (Instr.build t (parts.map fun (i, x) => (i, a.eval x))).run P w = .ok v w ∧ RV μ S w u v := by
  subst hL
  have hkind := (hT t).kind
  have e0 : (parts.map fun (i, x) => (i, a.eval x)).toList = parts.toList.map fun p => (p.1, a.eval p.2) := by simp
  split at h
  · rename_i fs hk
    rw [hk] at hkind
    obtain ⟨fields, hu, hagg, hfl, hsz, _⟩ := hkind
    obtain ⟨z, hz, h⟩ := ob_some h
    obtain ⟨hz1, hz2⟩ := known_some hz
    cases hz1
    obtain ⟨v, hv, h⟩ := ob_some h
    obtain ⟨hza, inf, zv, hi, hzv, hrv⟩ := (hT t).zero hz2
    obtain ⟨hr, hc⟩ := hrv μ S w
    obtain ⟨c1, c2, c3⟩ := hr.cells hz2 hc
    have hrun := fields_run (P := P) (w := w) (t := t) hT fields.toList (fun f hf => hsz (f.offset, f.type) (by rw [← hfl]; exact List.mem_map.2 ⟨f, hf, rfl⟩))
    have hrun' : (fields.mapM fun f => (do pure (f.offset, ← sizeOf f.type) : Sem (Nat × Nat))).run P w = .ok (fields.toList.map fun f => (f.offset, (L.ti f.type).size)).toArray w := by
      rw [Array.mapM_eq_mapM_toList, Sem.run_map, hrun]; rfl
    obtain ⟨cs', f1, f2, f3⟩ := buildAV_ok hf (place := fun i => (fields.toList.map fun f => (f.offset, (L.ti f.type).size)).toArray[i]?) (by
      intro i p hp
      rw [snth_eq, ← hfl, List.getElem?_map] at hp
      cases hg : fields.toList[i]? with
      | none => rw [hg] at hp; cases hp
      | some f =>
        rw [hg] at hp
        simp only [Option.map_some, Option.some.injEq] at hp
        subst hp
        rw [List.getElem?_toArray, List.getElem?_map, hg]
        rfl) hv c1
    refine ⟨v, .agg cs'.toArray, h, ?_, RV.of_agg f2 (f3.trans (hza.trans hagg))⟩
    have e1 : zv.cells.toList.toArray = zv.cells := by simp
    rw [e1] at f1
    simp only [Instr.build, Sem.run_bind, zeroValue, typeInfo, run_program, hi, hzv, Result.andThen_ok, Sem.run_pure, run_underlying hu, hrun', e0, f1]
  · rename_i n et hk
    rw [hk] at hkind
    obtain ⟨hu, hes, hagg, hsz, hpure⟩ := hkind
    split at h
    · rename_i m e hty
      obtain ⟨hp, h⟩ := condT h
      obtain ⟨xs, hx, h⟩ := ob_some h
      obtain ⟨hpe, hty'⟩ := hpure hp
      rw [hty] at hty'
      cases hty'
      obtain ⟨_, hsze, _, inf, z, hi, hz, hzr⟩ := (hT t).pure hp
      have hzr := hzr S w
      rw [hty] at hzr
      obtain ⟨hl0, hrow⟩ := hzr
      obtain ⟨cs', f1, f2, f3⟩ := buildArr_ok hB hf hx hrow hl0
      obtain ⟨_, hse, _⟩ := (hT et).pure hpe
      have hso := run_sizeOf (hT et) hes w
      refine ⟨_, .agg cs'.toArray, h, ?_, RV.of_agg (u := .dat (.arr n (L.ti et).ty) xs) ⟨f3, f2⟩ rfl⟩
      have e1 : z.cells.toList.toArray = z.cells := by simp
      rw [e1, hse] at f1
      simp only [Instr.build, Sem.run_bind, zeroValue, typeInfo, run_program, hi, hz, Result.andThen_ok, Sem.run_pure, run_underlying hu, hso, e0, f1]
    · cases h
  · cases h

theorem buildSlice_ok {R : Type} (hT : ∀ t, TiOk P T t) {L : Lib} (hL : L.ti = T) {st : St} (hB : SimB μ S w st.bl st.nb) {a : Act} (hf : SimF μ S w st.fr a) {o : Oper} {K : St → Option R} {r : R} {t : TypeId} {len : Nat} {parts : Array (Nat × Operand)}
    (h : (match (L.ti t).k with
    | .slice et => cond (and3 (L.ti et).pure (Nat.ble (Nat.mul len (L.ti et).size) 16777216) true)
        (ob (buildSl st (L.ti et).ty len (List.replicate len (L.ti et).ty.dflt) [] parts.toList) fun p =>
          K (St.put ⟨st.fr, (st.nb, .row (L.ti et).ty p.1) :: kill p.2 st.bl, Nat.add st.nb 1⟩ o.dst (.own st.nb)))
        (cond (Nat.beq (L.ti et).size 0) none (ob (known (some (L.ti et).zero)) fun _ => ob (buildVals st (L.ti et).size (L.ti et).agg 0 parts.toList) fun vs => cond (and3 (Nat.beq (slen parts.toList) len) (Nat.ble (Nat.mul len (L.ti et).size) 16777216) true) (K ((st.new (.vals len (L.ti et).size vs)).put o.dst (.own st.nb))) none))
    | _ => none) = some r) :
    ∃ ε μ' S' w' v, K (St.put ⟨st.fr, ε ++ st.bl, st.nb + 1⟩ o.dst (.own st.nb)) = some r ∧ (Instr.buildSlice t len (parts.map fun (i, x) => (i, a.eval x))).run P w = .ok v w' ∧
      StepB μ S w st.bl st.nb μ' S' w' (ε ++ st.bl) (st.nb + 1) ∧ RV μ' S' w' (.own st.nb) v := by
  subst hL
  have hkind := (hT t).kind
  have e0 : (parts.map fun (i, x) => (i, a.eval x)).toList = parts.toList.map fun p => (p.1, a.eval p.2) := by simp
  split at h
  · rename_i et hk
    rw [hk] at hkind
    obtain ⟨hu, hes, _, _, _⟩ := hkind
    have hso := run_sizeOf (hT et) hes w
    -- the run, its cells given
    have run : ∀ {inf : TypeInfo} {z : Value} {cs' : List Value}, P.info? et = some inf → inf.zero = some z → len * (L.ti et).size ≤ 16777216 →
        Instr.fill (fun i => some (i * (L.ti et).size, (L.ti et).size)) (madeCells z.cells (len * (L.ti et).size)) (parts.toList.map fun p => (p.1, a.eval p.2)) = some cs'.toArray →
        (Instr.buildSlice t len (parts.map fun (i, x) => (i, a.eval x))).run P w = .ok (.slice (some ⟨w.heap.size, 0, none⟩) len len) (w.alloc (.cells cs'.toArray et)) := by
      intro inf z cs' hi hz hle hfill
      have hng : ¬ (len * (L.ti et).size > 2 ^ 24) := by omega
      simp only [Instr.buildSlice, Sem.run_bind, run_underlying hu, hso, Result.andThen_ok, Sem.run_ite, hng, if_false, Sem.run_pure]
      by_cases h0 : len * (L.ti et).size = 0
      · have e1 : (Array.range (len * (L.ti et).size)).map ((#[] : Array Value)[· % (#[] : Array Value).size]!) = madeCells z.cells (len * (L.ti et).size) := by
          rw [h0]; simp [madeCells]
        simp only [h0, if_true, Sem.run_pure, Result.andThen_ok, e0]
        rw [h0] at e1 hfill
        rw [e1, hfill]
        simp [newRow]
      · simp only [h0, if_false, Sem.run_bind, zeroValue, typeInfo, run_program, hi, hz, Sem.run_pure, Result.andThen_ok, e0]
        have e1 : (Array.range (len * (L.ti et).size)).map (z.cells[· % z.cells.size]!) = madeCells z.cells (len * (L.ti et).size) := rfl
        rw [e1, hfill]
        simp [newRow]
    cases hcond : and3 (L.ti et).pure (Nat.ble (Nat.mul len (L.ti et).size) 16777216) true with
    | true =>
      rw [hcond] at h
      obtain ⟨hp, hle, _⟩ := and3_true hcond
      have hle : len * (L.ti et).size ≤ 16777216 := Nat.le_of_ble_eq_true hle
      obtain ⟨⟨ys, gs⟩, hb, h⟩ := ob_some h
      obtain ⟨_, hsze, _, inf, z, hi, hz, hzr⟩ := (hT et).pure hp
      have hzl := Rep.length (hzr S w)
      have hzs : z.cells.size = (L.ti et).size := by rw [← hsze, ← hzl]; simp
      obtain ⟨cs', f1, f2, f3⟩ := buildSl_ok hB hf (S' := fun b => S b ∨ Of μ st.bl gs b) (fun _ h => .inl h) hb (fun _ h => .inr h) (RepRow.replicate (hzr _ w) len) (by simp)
      have e2 : (List.replicate len z.cells.toList).flatten.toArray = madeCells z.cells (len * (L.ti et).size) := by
        rw [← hzs, ← madeCells_mul]
      rw [e2, hsze] at f1
      have hkill := StepB.kill hB gs
      have hl := RepRow.length (n := (L.ti et).ty.size) (fun x c h => Rep.length h) f2
      have hrow := StepB.row (t := et) (cap := len) (fill := []) (w' := w.alloc (.cells cs'.toArray et)) hkill.1 (by rw [List.append_nil]; rfl) rfl rfl ⟨rfl, Nat.le_refl _⟩ f2 (by omega) (by
        have : len ≤ len * (L.ti et).size := Nat.le_mul_of_pos_right _ (Nat.pos_of_ne_zero hes)
        simp only [maxLen]; omega) (by rw [List.append_nil, hl, f3]; exact Nat.le_refl _)
      refine ⟨(st.nb, .row (L.ti et).ty ys) :: gs.map (fun k => (k, Blk.dead)), upd μ st.nb ⟨w.heap.size, ys.length, 0, len, false⟩, (fun b => S b ∨ Of μ st.bl gs b), _, _, ?_, run hi hz hle f1, ?_, ?_⟩
      rotate_left
      · rw [List.cons_append, ← kill_eq]; exact hkill.trans hrow
      · have := RV.own_new (S := fun b => S b ∨ Of μ st.bl gs b) (w := w.alloc (.cells cs'.toArray et)) (μ := μ) st.nb ⟨w.heap.size, ys.length, 0, len, false⟩
        simpa [rowVal, f3] using this
      · rw [List.cons_append, ← kill_eq]; exact h
    | false =>
      rw [hcond] at h
      obtain ⟨_, h⟩ := condF h
      obtain ⟨z0, hz0, h⟩ := ob_some h
      obtain ⟨hz1, hz2⟩ := known_some hz0
      cases hz1
      obtain ⟨vs, hvs, h⟩ := ob_some h
      obtain ⟨hc, h⟩ := condT h
      obtain ⟨c1, c2, _⟩ := and3_true hc
      have c1 := beq_true c1
      rw [slen_eq] at c1
      have hle : len * (L.ti et).size ≤ 16777216 := Nat.le_of_ble_eq_true c2
      obtain ⟨_, inf, z, hi, hz, _⟩ := (hT et).zero hz2
      obtain ⟨cs', f1, f2⟩ := buildVals_ok hf (pre := []) (rest := (madeCells z.cells (len * (L.ti et).size)).toList) hvs (by simp) (by rw [Array.length_toList, size_madeCells, c1])
      rw [List.nil_append, List.nil_append] at f1
      have e2 : (madeCells z.cells (len * (L.ti et).size)).toList.toArray = madeCells z.cells (len * (L.ti et).size) := by simp
      rw [e2] at f1
      have hold : ∀ b, b < w.heap.size → (w.alloc (.cells cs'.toArray et)).heap[b]? = w.heap[b]? := fun b hb => heap_alloc_old w _ b hb
      have hmu : ∀ k q, μ k = some q → upd μ st.nb ⟨w.heap.size, len, 0, len, false⟩ k = some q := fun k q hk => upd_old hk (fun e => by have := hB.dom k q hk; omega)
      have hs : StepB μ S w st.bl st.nb (upd μ st.nb ⟨w.heap.size, len, 0, len, false⟩) S (w.alloc (.cells cs'.toArray et)) ((st.nb, .vals len (L.ti et).size vs) :: st.bl) (st.nb + 1) :=
        StepB.new hB rfl rfl rfl rfl ⟨rfl, Nat.le_refl _⟩ (by simp) hold ⟨_, upd_self _ _ _, rfl, rfl, rfl, rfl, cs', et, heap_alloc_new w _, RVals.move hmu (fun _ h => h) (fun b hb => hold b (hB.sb b hb)) f2⟩
      exact ⟨[(st.nb, .vals len (L.ti et).size vs)], _, _, _, _, h, run hi hz hle f1, hs, RV.own_new _ _⟩
  · cases h

theorem builtin_ok {R : Type} (hT : ∀ t, TiOk P T t) {L : Lib} (hL : L.ti = T) {st : St} (hB : SimB μ S w st.bl st.nb) {a : Act} (hf : SimF μ S w st.fr a) {o : Oper} {K : St → Option R} {r : R} {b : Builtin} {args : Array Operand} {ts : Array TypeId} (ty : TypeId)
    (h : builtinAV L st b args.toList ts.toList (fun st v => K (st.put o.dst v)) = some r) :
    ∃ ε nb' x μ' w' v, K (St.put ⟨st.fr, ε ++ st.bl, nb'⟩ o.dst x) = some r ∧ (∀ cs, (builtin b ts ty cs (args.map a.eval)).run P w = .ok (.value v) w') ∧
      StepB μ S w st.bl st.nb μ' S w' (ε ++ st.bl) nb' ∧ RV μ' S w' x v := by
  subst hL
  have arr1 : ∀ {α : Type} {x : Array α} {y : α}, x.toList = [y] → x = #[y] := fun h => by apply Array.ext'; simpa using h
  have arr2 : ∀ {α : Type} {x : Array α} {y z : α}, x.toList = [y, z] → x = #[y, z] := fun h => by apply Array.ext'; simpa using h
  unfold builtinAV at h
  split at h
  · rename_i x t ha ht
    have ha := arr1 ha
    have ht := arr1 ht
    subst ha; subst ht
    obtain ⟨v, hv, h⟩ := ob_some h
    obtain ⟨n, hn, h⟩ := ob_some h
    have h1 := len_ok (P := P) hT rfl hB ty hn (St.opd_ok hf hv).1
    exact ⟨[], _, _, μ, w, _, h, fun cs => by simp [builtin, h1], StepB.refl hB, RV.int _ _⟩
  · rename_i x y t u ha ht
    have ha := arr2 ha
    have ht := arr2 ht
    subst ha; subst ht
    obtain ⟨htu, h2⟩ := condT h
    clear h
    have htu := beq_true htu
    subst htu
    split at h2
    · rename_i et hk
      obtain ⟨hp, h⟩ := condT h2
      obtain ⟨s, hs, h⟩ := ob_some h
      obtain ⟨v, hv, h⟩ := ob_some h
      obtain ⟨ε, nb', u, v', μ', w', h, h1, h2, h3⟩ := append_ok (P := P) hT rfl hB hk hp ty h (St.opd_ok hf hs).1 (St.opd_ok hf hv).1
      exact ⟨ε, nb', u, μ', w', v', h, fun cs => by simp [builtin, h1], h2, h3⟩
    · cases h2
  · rename_i x y ha
    have ha := arr2 ha
    subst ha
    obtain ⟨u, hu, h⟩ := ob_some h
    obtain ⟨v, hv, h⟩ := ob_some h
    have h1 := (St.opd_ok hf hu).1
    have h2 := (St.opd_ok hf hv).1
    split at h
    · have e1 := h1.int_inv
      have e2 := h2.int_inv
      exact ⟨[], _, _, μ, w, _, h, fun cs => by simp [builtin, e1, e2, run_min], StepB.refl hB, RV.int _ _⟩
    · cases h
  · rename_i x y ha
    have ha := arr2 ha
    subst ha
    obtain ⟨u, hu, h⟩ := ob_some h
    obtain ⟨v, hv, h⟩ := ob_some h
    have h1 := (St.opd_ok hf hu).1
    have h2 := (St.opd_ok hf hv).1
    split at h
    · have e1 := h1.int_inv
      have e2 := h2.int_inv
      exact ⟨[], _, _, μ, w, _, h, fun cs => by simp [builtin, e1, e2, run_max], StepB.refl hB, RV.int _ _⟩
    · cases h
  · cases h

/-- Bytes made a text. -/
theorem bytes_ok {st : St} (hB : SimB μ S w st.bl st.nb) {x : AV} {xs : List Int} {v : Value} (h : rowOf st (.int .u8) x = some xs) (hv : RV μ S w x v)
    (src dst e : TypeId) (hs : P.underlying src = some (.slice e)) (he : P.underlying e = some (.int .u8)) (hd : P.underlying dst = some .string) :
    (convert src dst v).run P w = .ok (.string (bytesB xs)) w := by
  obtain ⟨A, cap, rfl, -, hc⟩ := rowOf_ok hB h hv
  have hfold : ∀ (l : List Int) (r : ByteArray), l.foldl (fun r n => r.push (UInt8.ofNat n.toNat)) r = ⟨r.data ++ (l.map fun n => UInt8.ofNat n.toNat).toArray⟩ := by
    intro l
    induction l with
    | nil => intro r; simp
    | cons n l ih =>
      intro r
      rw [List.foldl_cons, ih]
      simp [ByteArray.push]
  cases A with
  | none =>
    have h0 : xs = [] := by
      rcases hc with hc | ⟨b, o, ds, hA, _⟩
      · exact List.length_eq_zero_iff.1 hc
      · cases hA
    subst h0
    exact run_convert_bytes_nil w src e hs he _ _ dst hd
  | some a =>
    have hl : (loadCells a xs.length).run P w = .ok (xs.map (Value.int .u8)).toArray w := by
      rcases hc with hc | ⟨b, o, ds, hA, hcell, hrow⟩
      · have h0 := List.length_eq_zero_iff.1 hc
        subst h0
        have := run_loadCells_list (P := P) w a [] (fun j v hj => by simp at hj)
        simpa using this
      · cases hA
        have hds : ∀ (xs : List Int) (ds : List Value), RepRow (Rep S w (.int .u8)) xs ds → ds = xs.map (Value.int .u8) := by
          intro xs
          induction xs with
          | nil => intro ds h; exact h
          | cons n xs ih =>
            rintro ds ⟨c, r, rfl, h1, h2⟩
            have h1 : c = [Value.int .u8 n] := h1
            rw [h1, ih r h2]; rfl
        have hd2 := hds xs ds hrow
        subst hd2
        have := run_loadCells_list (P := P) w ⟨b, o, none⟩ (xs.map (Value.int .u8)) (fun j v hj => by
          have hplain : (⟨b, o, none⟩ : Addr).add j = ⟨b, o + j, none⟩ := by unfold Addr.add; split <;> simp_all
          rw [hplain]
          exact hcell j v hj)
        simpa using this
    rw [run_convert_bytes_string w src dst e _ _ cap hs he hd, run_bytesToString w a xs.length cap xs hl, hfold]
    simp [bytesB, ByteArray.empty, ByteArray.emptyWithCapacity]
    rfl

/-- One operation that calls nothing runs as it is read. -/
theorem opAV_ok {R : Type} (hT : ∀ t, TiOk P T t) {L : Lib} (hL : L.ti = T) {st : St} (hB : SimB μ S w st.bl st.nb) {a : Act} (hf : SimF μ S w st.fr a) {o : Oper} {K : St → Option R} {r : R}
    (h : opAV L st o K = some r) : OpOk P μ S w a o st K r := by
  subst hL
  unfold opAV at h
  cases hop : o.op with
  | move x =>
    rw [hop] at h
    obtain ⟨v, hv, h⟩ := ob_some h
    exact OpOk.pure hB h (by simp [execOp, hop]) (St.any_ok hf hv)
  | assign x =>
    rw [hop] at h
    obtain ⟨v, hv, h⟩ := ob_some h
    exact OpOk.pure hB h (by simp [execOp, hop]) (St.any_ok hf hv)
  | pick c x y =>
    rw [hop] at h
    obtain ⟨v, hv, h⟩ := ob_some h
    have hcv := (St.opd_ok hf hv).1
    split at h
    · rename_i t
      have hcv := hcv.bool_inv
      cases t with
      | true =>
        obtain ⟨u, hu, h⟩ := ob_some h
        exact OpOk.pure hB h (by simp [execOp, hop, hcv, asBool]) (St.opd_ok hf hu).1
      | false =>
        obtain ⟨u, hu, h⟩ := ob_some h
        exact OpOk.pure hB h (by simp [execOp, hop, hcv, asBool]) (St.opd_ok hf hu).1
    · cases h
  | alloc t =>
    rw [hop] at h
    obtain ⟨z, hz, h⟩ := ob_some h
    obtain ⟨hz1, hz2⟩ := known_some hz
    cases hz1
    obtain ⟨_, inf, zv, hi, hzv, hrv⟩ := (hT t).zero hz2
    obtain ⟨hr, hc⟩ := hrv μ S w
    obtain ⟨p, hs, hpb⟩ := StepB.box hB hr hz2 hc t
    refine ⟨[(st.nb, .box (L.ti t).zero)], st.nb + 1, _, _, _, _, .pointer (some ⟨w.heap.size, 0, none⟩), _, h, ?_, .inl rfl, hs, RV.of_one (u := .ptr _ _) ⟨p, upd_self _ _ _, by rw [hpb]⟩ rfl⟩
    simp [execOp, hop, Instr.alloc, zeroValue, typeInfo, hi, hzv, newVar, newRow]
  | box t x =>
    rw [hop] at h
    obtain ⟨v, hv, h⟩ := ob_some h
    obtain ⟨hr, hj, hc⟩ := St.opd_ok hf hv
    obtain ⟨h1, h⟩ := condT h
    obtain ⟨p, hs, hpb⟩ := StepB.box hB hr hj hc t
    refine ⟨[(st.nb, .box v)], st.nb + 1, _, _, _, _, .pointer (some ⟨w.heap.size, 0, none⟩), _, h, ?_, .inl rfl, hs, RV.of_one (u := .ptr _ _) ⟨p, upd_self _ _ _, by rw [hpb]⟩ rfl⟩
    simp [execOp, hop, Instr.box, newVar, newRow]
  | load t x =>
    rw [hop] at h
    obtain ⟨v, hv, h⟩ := ob_some h
    obtain ⟨u, hu, h⟩ := ob_some h
    obtain ⟨v', h1, h2, _⟩ := load_ok hT rfl hB hu (St.opd_ok hf hv).1
    exact OpOk.pure hB h (by simp [execOp, hop, h1]) h2
  | store t x y =>
    rw [hop] at h
    obtain ⟨v, hv, h⟩ := ob_some h
    obtain ⟨u, hu, h⟩ := ob_some h
    obtain ⟨st', hs, h⟩ := ob_some h
    obtain ⟨g1, g2, g3⟩ := St.opd_ok hf hu
    obtain ⟨ε, S', w', rfl, h1, h2⟩ := store_ok hT rfl hB hs (St.opd_ok hf hv).1 g1 g2 g3
    exact ⟨ε, _, _, _, _, _, undef, _, h, by simp [execOp, hop, h1], .inr ⟨rfl, rfl⟩, h2, trivial⟩
  | nilCheck x =>
    rw [hop] at h
    obtain ⟨v, hv, h⟩ := ob_some h
    have hr := (St.opd_ok hf hv).1
    split at h
    · obtain ⟨p, _, e⟩ := hr.ptr_inv
      exact OpOk.pure hB h (v := a.eval x) (by simp [execOp, hop, e]) hr
    · obtain ⟨p, _, _, e, _⟩ := hr.rptr_inv
      exact OpOk.pure hB h (v := a.eval x) (by simp [execOp, hop, e]) hr
    · obtain ⟨p, _, _, e, _⟩ := hr.aptr_inv
      exact OpOk.pure hB h (v := a.eval x) (by simp [execOp, hop, e]) hr
    · obtain ⟨_, _, _, e, _⟩ := hr.iptr_inv
      exact OpOk.pure hB h (v := a.eval x) (by simp [execOp, hop, e]) hr
    · obtain ⟨p, _, e⟩ := hr.vptr_inv
      exact OpOk.pure hB h (v := a.eval x) (by simp [execOp, hop, e]) hr
    · obtain ⟨vs, e, _⟩ := hr.to (by simp) (by simp)
      simp only [List.cons.injEq, and_true] at e
      exact OpOk.pure hB h (v := a.eval x) (by simp [execOp, hop, e]) hr
    · cases h
  | binOp op t x y ty =>
    rw [hop] at h
    dsimp only at h
    split at h
    · rename_i b hb
      obtain ⟨u, hu, h⟩ := ob_some h
      obtain ⟨z, v', h, h1, h2, h3⟩ := nilcmp_ok (P := P) hT rfl h (St.opd_ok hf hu).1 x hb a
      exact OpOk.pure hB h (by simp [execOp, hop, h1, h2]) h3
    · obtain ⟨u, hu, h⟩ := ob_some h
      obtain ⟨v, hv, h⟩ := ob_some h
      obtain ⟨z, v', h, h1, h2, h3⟩ := binAV_ok (P := P) hT rfl h (St.opd_ok hf hu).1 (St.opd_ok hf hv).1 x y
      exact OpOk.pure hB h (by simp [execOp, hop, h1, h2]) h3
  | makeInterface t x =>
    rw [hop] at h
    dsimp only at h
    split at h
    · rename_i fs hk
      obtain ⟨ht, h⟩ := condT h
      have ht := beq_true ht
      obtain ⟨v, hv, h⟩ := ob_some h
      obtain ⟨n, hn, h⟩ := ob_some h
      obtain ⟨h0, h⟩ := ite_none h
      have e := errOf_ok hn (St.opd_ok hf hv).1
      have hkind := (hT t).kind
      rw [hk] at hkind
      obtain ⟨fields, hun, _⟩ := hkind
      exact OpOk.pure hB h (v := .iface t (.agg #[.int .i64 n])) (by simp [execOp, hop, Instr.makeInterface, run_underlying hun, e]) (RV.of_one (u := .dat .err n) (.inr (.inl ⟨h0, by rw [ht]⟩)) rfl)
    · cases h
  | unOp op t x =>
    rw [hop] at h
    obtain ⟨v, hv, h⟩ := ob_some h
    have hr := (St.opd_ok hf hv).1
    split at h
    · have e := hr.bool_inv
      exact OpOk.pure hB h (by simp [execOp, hop, e, Op.unary]) (RV.bool _)
    · have e := hr.int_inv
      exact OpOk.pure hB h (by simp [execOp, hop, e, Op.unary, Op.intArith]) (RV.int _ _)
    · cases h
  | convert src dst x =>
    rw [hop] at h
    obtain ⟨v, hv, h⟩ := ob_some h
    have hr := (St.opd_ok hf hv).1
    split at h
    · rename_i hs hd
      obtain ⟨hk, hty⟩ := plainTy_ok hs
      obtain ⟨hk', hty'⟩ := plainTy_ok hd
      have k1 := (hT src).kind
      have k2 := (hT dst).kind
      rw [hk] at k1; rw [hk'] at k2
      obtain ⟨_, k1⟩ := k1
      obtain ⟨_, k2⟩ := k2
      rw [hty] at k1; rw [hty'] at k2
      have e := hr.int_inv
      exact OpOk.pure hB h (by simp [execOp, hop, e, convert, run_underlying k1, run_underlying k2, Conv.intToInt]) (RV.int _ _)
    · rename_i hs hd
      obtain ⟨hk, hty⟩ := plainTy_ok hs
      obtain ⟨hk', hty'⟩ := plainTy_ok hd
      have k1 := (hT src).kind
      have k2 := (hT dst).kind
      rw [hk] at k1; rw [hk'] at k2
      obtain ⟨_, k1⟩ := k1
      obtain ⟨_, k2⟩ := k2
      rw [hty] at k1; rw [hty'] at k2
      have e := hr.str_inv
      have k1 : P.underlying src = some .string := k1
      have k2 : P.underlying dst = some .string := k2
      exact OpOk.pure hB h (by simp [execOp, hop, e, convert, run_underlying k1, run_underlying k2]) (RV.str _)
    · rename_i hs hd
      obtain ⟨hk', hty'⟩ := plainTy_ok hd
      have k2 := (hT dst).kind
      rw [hk'] at k2
      obtain ⟨_, k2⟩ := k2
      rw [hty'] at k2
      have k2 : P.underlying dst = some .string := k2
      split at h
      · rename_i et hks
        have k1 := (hT src).kind
        rw [hks] at k1
        split at h
        · rename_i het
          obtain ⟨hke, htye⟩ := plainTy_ok het
          have k3 := (hT et).kind
          rw [hke] at k3
          obtain ⟨_, k3⟩ := k3
          rw [htye] at k3
          obtain ⟨xs, hx, h⟩ := ob_some h
          have hrun := bytes_ok (P := P) hB hx hr src dst et k1.1 k3 k2
          exact OpOk.pure hB h (by simp [execOp, hop, hrun]) (RV.str _)
        · cases h
      · cases h
    · cases h
  | makeFunc fn first captured =>
    rw [hop] at h
    cases fn with
    | func f =>
      obtain ⟨h1, h⟩ := condT h
      obtain ⟨c, hc, h⟩ := ob_some h
      have hfirst : first = #[] := by
        have : first.toList = [] := by
          cases hl : first.toList with
          | nil => rfl
          | cons _ _ => rw [hl] at h1; cases h1
        simpa using this
      have ho := opds_ok hf hc
      have e : captured.map a.eval = (captured.toList.map a.eval).toArray := by apply Array.ext'; simp
      exact OpOk.pure hB h (by simp [execOp, hop, Instr.makeFunc, hfirst]; rfl) (RV.of_one (u := .fn f c) ⟨_, by rw [e], ho⟩ rfl)
    | _ => cases h
  | makeMap t r0 =>
    rw [hop] at h
    cases r0 with
    | some _ => cases h
    | none =>
    dsimp only at h
    split at h
    · rename_i k v hk
      obtain ⟨h1, h⟩ := condT h
      have hs : StepB μ S w st.bl st.nb (upd μ st.nb ⟨w.heap.size, 0, 0, 0, false⟩) S (w.alloc (.map #[] 0)) ((st.nb, .map (L.ti k).ty (L.ti v).ty []) :: st.bl) (st.nb + 1) :=
        StepB.new hB rfl rfl rfl rfl ⟨rfl, Nat.le_refl _⟩ (by simp) (fun b hb => heap_alloc_old w _ b hb) ⟨_, upd_self _ _ _, rfl, #[], 0, heap_alloc_new w _, rfl, MapKept.stamped_empty 0⟩
      exact ⟨[(st.nb, .map (L.ti k).ty (L.ti v).ty [])], st.nb + 1, _, _, _, _, .map (some w.heap.size), _, h, by simp [execOp, hop, Instr.makeMap], .inl rfl, hs, RV.of_one (u := .mp _) ⟨_, upd_self _ _ _, rfl⟩ rfl⟩
    · cases h
  | makeSlice t l c =>
    rw [hop] at h
    dsimp only at h
    split at h
    · rename_i et la lc hk
      obtain ⟨h1, h2⟩ := condT h
      clear h
      rw [Bool.and_eq_true] at h1
      have hab := beq_true h1.1
      subst hab
      obtain ⟨v, hv, h⟩ := ob_some h2
      have hr := (St.opd_ok hf hv).1
      split at h
      · rename_i kk n
        obtain ⟨⟨h0, hb⟩, h⟩ := ite_none h
        have e := hr.int_inv
        obtain ⟨v', p, w', g1, g2, g3⟩ := make_ok (P := P) hT hB hk h1.2 kk kk h0 hb
        exact ⟨[(st.nb, _)], st.nb + 1, _, _, _, _, v', _, h, by simp [execOp, hop, e, g1], .inl rfl, g2, g3⟩
      · cases h
    · cases h
  | slice t x lo hi mx =>
    rw [hop] at h
    cases mx with
    | some mx =>
      cases lo with
      | some _ => cases h
      | none =>
      cases hi with
      | none => cases h
      | some hi =>
      obtain ⟨v, hv, h⟩ := ob_some h
      obtain ⟨ε, nb', u, v', μ', h, h1, h2, h3⟩ := slice3_ok (P := P) hT rfl hB hf h (St.opd_ok hf hv).1
      exact ⟨ε, nb', u, μ', S, w, v', _, h, by simp [execOp, hop, h1], .inl rfl, h2, h3⟩
    | none =>
    obtain ⟨v, hv, h⟩ := ob_some h
    obtain ⟨ε, nb', u, v', μ', h, h1, h2, h3⟩ := slice_ok (P := P) hT rfl hB hf h (St.opd_ok hf hv).1
    exact ⟨ε, nb', u, μ', S, w, v', _, h, by simp [execOp, hop, h1], .inl rfl, h2, h3⟩
  | fieldAddr t x f =>
    rw [hop] at h
    obtain ⟨v, hv, h⟩ := ob_some h
    obtain ⟨u, hu, h⟩ := ob_some h
    obtain ⟨v', h1, h2⟩ := fieldAddr_ok (P := P) (w := w) hT rfl hu (St.opd_ok hf hv).1
    exact OpOk.pure hB h (by simp [execOp, hop, h1]) h2
  | indexAddr t x i =>
    rw [hop] at h
    obtain ⟨v, hv, h⟩ := ob_some h
    obtain ⟨j, hj, h⟩ := ob_some h
    have hr := (St.opd_ok hf hj).1
    split at h
    · rename_i kk z
      have e := hr.int_inv
      obtain ⟨u, v', h, h1, h2⟩ := indexAddr_ok (P := P) (kk := kk) hT rfl hB h (St.opd_ok hf hv).1
      exact OpOk.pure hB h (by simp [execOp, hop, e, h1]) h2
    · cases h
  | extract x i =>
    rw [hop] at h
    obtain ⟨v, hv, h⟩ := ob_some h
    obtain ⟨u, hu, h2⟩ := ob_some h
    clear h
    have hr : RV μ S w v (a.eval x) := by
      cases x with
      | tmp t => exact hf.slot t v (several_some hv).1
      | _ => cases hv
    have hnj : ∀ z, v ≠ .cons .junk z := by
      cases x with
      | tmp t => exact (several_some hv).2
      | _ => cases hv
    cases v with
    | cons y z =>
      rcases hr with ⟨rfl, _⟩ | ⟨vs, e, hl⟩
      · exact absurd rfl (hnj z)
      obtain ⟨d, h1, h3⟩ := RL.nth hu hl
      exact OpOk.pure hB h2 (v := d) (by simp [execOp, hop, e, Instr.extract, h1]) h3
    | _ => cases i <;> simp [AV.nth] at hu
  | field t x f =>
    rw [hop] at h
    dsimp only at h
    split at h
    · rename_i fs hk
      obtain ⟨p, hp, h⟩ := ob_some h
      obtain ⟨v, hv, h⟩ := ob_some h
      obtain ⟨hg, h⟩ := condT h
      obtain ⟨u, hu, h⟩ := ob_some h
      obtain ⟨hr, hj, hc⟩ := St.opd_ok hf hv
      have hkind := (hT t).kind
      rw [hk] at hkind
      obtain ⟨fields, hun, _, hfl, hsz, _⟩ := hkind
      rw [← hfl, snth_map] at hp
      cases hfd : fields.toList[f]? with
      | none => rw [hfd] at hp; cases hp
      | some fd =>
        rw [hfd] at hp
        simp only [Option.map_some, Option.some.injEq] at hp
        have hfd' : fields[f]? = some fd := by rw [← Array.getElem?_toList]; exact hfd
        have hmem : p ∈ fs := by rw [← hfl]; exact List.mem_map.2 ⟨fd, List.mem_of_getElem? hfd, hp⟩
        have hne := hsz p hmem
        have e1 : fd.offset = p.1 := by rw [← hp]
        have e2 : fd.type = p.2 := by rw [← hp]
        obtain ⟨c1, c2, c3⟩ := hr.cells hj hc
        obtain ⟨g1, g2, g3, g4⟩ := AV.sub_ok hu c1
        obtain ⟨cs, e⟩ := c2 hg
        rw [e] at g1 g4
        simp only [Value.cells] at g1 g4
        obtain ⟨v', h1, h2⟩ := run_part_ok (P := P) (hT p.2) hne (cs := cs) g1 g2 g4
        exact OpOk.pure hB h (v := v') (by simp [execOp, hop, Instr.field, run_underlying hun, hfd', e, asAgg, e1, e2, h1]) h2
    · cases h
  | index t x i =>
    rw [hop] at h
    obtain ⟨v, hv, h⟩ := ob_some h
    obtain ⟨j, hj, h⟩ := ob_some h
    have hr := (St.opd_ok hf hv).1
    have hi := (St.opd_ok hf hj).1
    have hkind := (hT t).kind
    split at h
    · rename_i m et n e' xs k' z hk _
      rw [hk] at hkind
      obtain ⟨hu, hes, _, _, _⟩ := hkind
      obtain ⟨hc, h2⟩ := condT h
      clear h
      obtain ⟨c1, c2, c3⟩ := and3_true hc
      have c1 := beq_true c1; have c2 := beq_true c2; have c3 := beqB_true c3
      obtain ⟨hb, h⟩ := ite_none h2
      have e := hi.int_inv
      obtain ⟨cs, e2, hl, hrow⟩ := hr.arr_inv
      subst c1
      have hz : Int.toNat z < xs.length := by rw [hl]; exact toNat_lt hb
      have g1 := RepRow.get (R := Rep S w e') (fun x c h => Rep.length h) e'.dflt (Int.toNat z) hrow hz
      have hlen := RepRow.length (n := e'.size) (fun x c h => Rep.length h) hrow
      have hfit : Int.toNat z * e'.size + (L.ti et).size ≤ cs.length := by
        have : (Int.toNat z + 1) * e'.size ≤ xs.length * e'.size := Nat.mul_le_mul_right _ hz
        rw [hlen, ← c2]; rw [Nat.add_mul, Nat.one_mul] at this; exact this
      rw [c2] at g1 hfit
      obtain ⟨v', h1, h2⟩ := run_part_ok (P := P) (μ := μ) (hT et) hes (cs := cs) (u := .dat e' (List.getD xs (Int.toNat z) e'.dflt)) g1 c3 hfit
      exact OpOk.pure hB h (v := v') (by simp [execOp, hop, Instr.index, e, e2, asIntOf, run_underlying hu, hb, run_sizeOf (hT et) hes, h1]) h2
    · rename_i s k' z hk _
      rw [hk] at hkind
      obtain ⟨_, hkind⟩ := hkind
      split at h
      · rename_i hty
        rw [hty] at hkind
        have hu : P.underlying t = some .string := hkind
        obtain ⟨hb, h⟩ := ite_none h
        have e := hi.int_inv
        have e2 := hr.str_inv
        have hlt : Int.toNat z < ByteArray.size s := toNat_lt hb
        have hbt : bt s z = (((s : ByteArray)[Int.toNat z]'hlt).toNat : Int) := by rw [bt, dif_pos hlt]
        have hget : (s : ByteArray)[Int.toNat z]? = some ((s : ByteArray)[Int.toNat z]'hlt) := getElem?_pos (s : ByteArray) (Int.toNat z) hlt
        rw [hbt] at h
        exact OpOk.pure hB h (v := .int .u8 (((s : ByteArray)[Int.toNat z]'hlt).toNat : Int)) (by simp [execOp, hop, Instr.index, e, e2, asIntOf, run_underlying hu, hb, hget]) (RV.int _ _)
      · cases h
    · cases h
  | lookup t x i ok =>
    rw [hop] at h
    obtain ⟨m, hm, h⟩ := ob_some h
    obtain ⟨kv, hkv, h⟩ := ob_some h
    have hrm := (St.opd_ok hf hm).1
    obtain ⟨hrk, hjk, hck⟩ := St.opd_ok hf hkv
    split at h
    · rename_i k kt0 vt0 hk _
      split at h
      · rename_i kt vt es hkb
        obtain ⟨⟨y, ks⟩, hy, h⟩ := ob_some h
        obtain ⟨hc, h⟩ := condT h
        obtain ⟨c1, c2, c3⟩ := and3_true hc
        cases ks with
        | cons _ _ => cases c2
        | nil =>
        have hval := take_val hB hy hrk hjk hck (S' := S) (fun _ h => h) (fun b hb => by obtain ⟨k, hk, _⟩ := hb; simp at hk)
        split at h
        · rename Is _ _ => hs
          cases hs with
          | mk hs =>
          obtain ⟨v, h1, h2⟩ := lookup_ok (P := P) hT rfl hB hk hkb hrm hval c3 c1 hs false
          exact OpOk.pure hB h (by simp [execOp, hop, h1]) h2.rv
        · rename Is _ _ => hs
          cases hs with
          | mk hs =>
          obtain ⟨v, h1, h2⟩ := lookup_ok (P := P) hT rfl hB hk hkb hrm hval c3 c1 hs true
          refine OpOk.pure hB h (v := .tuple #[v, .bool (mget kt vt es y).isSome]) (by simp [execOp, hop, h1]) ?_
          exact .inr ⟨[v, .bool (mget kt vt es y).isSome], rfl, v, _, rfl, RX.item h2.rv (by simp) (by simp), _, _, rfl, RX.item (RV.bool _) (by simp) (by simp), rfl⟩
        · cases h
      · cases h
    · cases h
  | call c =>
    rw [hop] at h
    dsimp only at h
    cases hcal : c.callee with
    | builtin b =>
      rw [hcal] at h
      obtain ⟨ε, nb', x, μ', w', v, h, h1, h2, h3⟩ := builtin_ok (P := P) hT rfl hB hf o.type h
      refine ⟨ε, nb', x, μ', S, w', v, _, h, ?_, .inl rfl, h2, h3⟩
      rw [execOp, hop]
      simp only [Sem.run_bind, resolve, hcal, Sem.run_pure, Result.andThen_ok, invoke]
      exact h1 _
    | _ => rw [hcal] at h; cases h
  | mapUpdate t m k x =>
    rw [hop] at h
    obtain ⟨ε, S', w', h, h1, h2⟩ := mapSet_ok (P := P) hT rfl hB hf h
    exact ⟨ε, _, .junk, μ, S', w', undef, _, h, by simp [execOp, hop, h1], .inr ⟨rfl, rfl⟩, h2, trivial⟩
  | insert t m k x =>
    rw [hop] at h
    obtain ⟨ε, S', w', h, h1, h2⟩ := mapSet_ok (P := P) hT rfl hB hf h
    exact ⟨ε, _, .junk, μ, S', w', undef, _, h, by simp [execOp, hop, h1], .inr ⟨rfl, rfl⟩, h2, trivial⟩
  | build t parts =>
    rw [hop] at h
    obtain ⟨u, v, h, h1, h2⟩ := build_ok (P := P) hT rfl hB hf h
    exact OpOk.pure hB h (v := v) (by simp only [execOp, hop, Sem.run_bind, h1, Result.andThen_ok, Sem.run_pure]) h2
  | buildSlice t n parts =>
    rw [hop] at h
    obtain ⟨ε, μ', S', w', v, h, h1, h2, h3⟩ := buildSlice_ok (P := P) hT rfl hB hf h
    exact ⟨ε, _, _, μ', S', w', v, _, h, by simp only [execOp, hop, Sem.run_bind, h1, Result.andThen_ok, Sem.run_pure], .inl rfl, h2, h3⟩
  | _ => rw [hop] at h; cases h

end
end Go.Pv
