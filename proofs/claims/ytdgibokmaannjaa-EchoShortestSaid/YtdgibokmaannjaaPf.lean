/- A pure reading of the model's code, and that the run does what it says: part f. -/
import Derived.Test.YtdgibokmaannjaaPe
import Derived.ScopeJumps
import Derived.RangeFuncLeaves
/- The state behind a loop. -/
set_option linter.unusedVariables false
set_option linter.unusedSimpArgs false
namespace Go.Pv

section
variable {P : Program} {S : Nat → Prop} {w : World}

/-- The references among the arguments are in their slots. -/
def ArgsAt (μ : Nat → Option At) (S : Nat → Prop) (w : World) (a : Act) : Fs → AV → List Nat → Prop
  | (.box _, true) :: r, .cons u v, t :: ts => RV μ S w u (a.tmps.getD t undef) ∧ ArgsAt μ S w a r v ts
  | (.map _ _, true) :: r, .cons u v, t :: ts => RV μ S w u (a.tmps.getD t undef) ∧ ArgsAt μ S w a r v ts
  | (.fn _ _, true) :: r, .cons u v, t :: ts => RV μ S w u (a.tmps.getD t undef) ∧ ArgsAt μ S w a r v ts
  | _ :: r, .cons _ v, _ :: ts => ArgsAt μ S w a r v ts
  | _, _, _ => True

theorem ArgsAt.move {μ μ1 : Nat → Option At} {a : Act} (h : ∀ k p, μ k = some p → μ1 k = some p) : ∀ {l : Fs} {args : AV} {ts : List Nat}, ArgsAt μ S w a l args ts → ArgsAt μ1 S w a l args ts
  | [], args, ts, _ => by cases args <;> cases ts <;> trivial
  | (s, fl) :: r, args, ts, ha => by
    cases args with
    | cons u v =>
      cases ts with
      | nil => cases s <;> cases fl <;> trivial
      | cons t ts =>
        cases fl with
        | false => cases s <;> exact ArgsAt.move (l := r) (args := v) (ts := ts) h ha
        | true =>
          cases s with
          | box s => exact ⟨RV.move h (fun _ h => h) (fun _ _ => rfl) ha.1, ArgsAt.move (l := r) (args := v) (ts := ts) h ha.2⟩
          | map k e => exact ⟨RV.move h (fun _ h => h) (fun _ _ => rfl) ha.1, ArgsAt.move (l := r) (args := v) (ts := ts) h ha.2⟩
          | fn k e => exact ⟨RV.move h (fun _ h => h) (fun _ _ => rfl) ha.1, ArgsAt.move (l := r) (args := v) (ts := ts) h ha.2⟩
          | _ => exact ArgsAt.move (l := r) (args := v) (ts := ts) h ha
    | _ => cases s <;> cases fl <;> trivial

/-- All that a loop gives back is laid anew. -/
theorem Fs.after_ok {a : Act} : ∀ {l : Fs} {args : AV} {ts : List Nat} {m : l.back.den} {bF : List Nat} {μ : Nat → Option At} {st st1 : St}, Fs.after l args ts m st = some st1 → ArgsAt μ S w a l args ts →
    FsB S w l m (slotVals a ts) bF → SimB μ S w st.bl st.nb → bF.Nodup → (∀ b ∈ bF, b < w.heap.size ∧ ¬ S b ∧ ¬ Liv μ st.bl b) → (Fs.tops l args).Nodup → (∀ k ∈ Fs.tops l args, ∀ y, lk st.bl k = some y → y = .dead) →
    (∀ k ∈ Fs.tops l args, ∃ p, μ k = some p) → TopsOk μ l args → ∃ μ1, MadeX μ S w st μ1 ⟨st.fr, st1.bl, st1.nb⟩ bF ∧ ∃ φ : List (Nat × AV), st1.fr = φ ++ st.fr ∧ (∀ p ∈ φ, RV μ1 S w p.2 (a.tmps.getD p.1 undef)) ∧ ∀ t ∈ Lent.writesOf l ts, ∃ p ∈ φ, p.1 = t
  | [], args, ts, m, bF, μ, st, st1, h, ha, hf, hB, hn, hb, ht, hd, hk, hq => by
    obtain ⟨_, rfl⟩ := hf
    rw [Fs.after] at h; cases h
    exact ⟨μ, (Made.none hB).x, [], rfl, by simp, fun t h => by cases ts <;> simp [Lent.writesOf] at h⟩
  | (s, fl) :: r, args, ts, m, bF, μ, st, st1, h, ha, hf, hB, hn, hb, ht, hd, hk, hq => by
    cases args with
    | cons u v =>
      cases ts with
      | nil => cases s <;> cases fl <;> cases h
      | cons t ts =>
        cases fl with
        | false =>
          obtain ⟨d, vr, e1, h2⟩ := hf
          rw [tops_false] at ht hd hk
          have e1 : slotVals a (t :: ts) = d :: vr := e1
          have e2 : vr = slotVals a ts := by simp only [slotVals, List.map_cons, List.cons.injEq] at e1; exact e1.2.symm
          subst e2
          have ha' : ArgsAt μ S w a r v ts := by cases s <;> exact ha
          have h' : Fs.after r v ts m st = some st1 := by cases s <;> exact h
          have e3 : Lent.writesOf ((s, false) :: r) (t :: ts) = Lent.writesOf r ts := by cases s <;> rfl
          rw [e3]
          exact Fs.after_ok (l := r) (args := v) (ts := ts) h' ha' h2 hB hn hb ht hd hk hq
        | true =>
          obtain ⟨d, vr, b1, b2, e1, e2, h1, h2⟩ := hf
          have e1 : slotVals a (t :: ts) = d :: vr := e1
          simp only [slotVals, List.map_cons, List.cons.injEq] at e1
          obtain ⟨ed, er⟩ := e1
          have er : vr = slotVals a ts := er.symm
          subst er ed e2
          obtain ⟨n1, n2, n3⟩ := List.nodup_append.1 hn
          rw [tops_cons] at ht hd hk
          obtain ⟨t1, t2, t3⟩ := List.nodup_append.1 ht
          -- a reference
          have viaPut : ∀ {st2 : St}, Sh.put s u m.1 st = some st2 → RV μ S w u (a.tmps.getD t undef) → ArgsAt μ S w a r v ts → Fs.after r v ts m.2 st2 = some st1 →
              ∃ μ1, MadeX μ S w st μ1 ⟨st.fr, st1.bl, st1.nb⟩ (b1 ++ b2) ∧ ∃ φ : List (Nat × AV), st1.fr = φ ++ st.fr ∧ (∀ p ∈ φ, RV μ1 S w p.2 (a.tmps.getD p.1 undef)) ∧ ∀ t ∈ Lent.writesOf r ts, ∃ p ∈ φ, p.1 = t := by
            intro st2 hp hu har h
            obtain ⟨μ1, hm, hl⟩ := Sh.put_ok hp hu h1 hB n1 (fun b hbb => hb b (by simp [hbb])) t1 (fun k hin => hd k (by simp [hin])) (fun k hin => hk k (by simp [hin])) hq.1
            obtain ⟨μ2, hm2, φ, e3, hφ, hφw⟩ := Fs.after_ok (l := r) (args := v) (ts := ts) h (ArgsAt.move hm.mu har) h2 hm.sim n2 (fun b hbb => ⟨(hb b (by simp [hbb])).1, (hb b (by simp [hbb])).2.1, fun hlv => by
                rcases (hm.liv b).1 hlv with h | h
                · exact (hb b (by simp [hbb])).2.2 h
                · exact n3 _ h _ hbb rfl⟩) t2 (fun k hin y hy => by
                obtain ⟨p, hp'⟩ := hk k (by simp [hin])
                rw [hl k (hB.dom k p hp') (fun hin' => t3 _ hin' _ hin rfl)] at hy
                exact hd k (by simp [hin]) y hy) (fun k hin => by
                obtain ⟨p, hp'⟩ := hk k (by simp [hin])
                exact ⟨p, hm.mu k p hp'⟩) (TopsOk.move hm.mu (fun k hin => hk k (by simp [hin])) hq.2)
            have hfr : st2.fr = st.fr := hm.fr
            have hm2' : MadeX μ1 S w st2 μ2 ⟨st.fr, st1.bl, st1.nb⟩ b2 := by rw [← hfr]; exact hm2
            exact ⟨μ2, hm.trans hm2', φ, by rw [e3, hfr], hφ, hφw⟩
          cases s with
          | box s =>
            obtain ⟨st2, hp, h⟩ := ob_some (show (ob (Sh.put (.box s) u m.1 st) fun st => Fs.after r v ts m.2 st) = some st1 from h)
            exact viaPut hp ha.1 ha.2 h
          | map k e =>
            obtain ⟨st2, hp, h⟩ := ob_some (show (ob (Sh.put (.map k e) u m.1 st) fun st => Fs.after r v ts m.2 st) = some st1 from h)
            exact viaPut hp ha.1 ha.2 h
          | fn k e =>
            obtain ⟨st2, hp, h⟩ := ob_some (show (ob (Sh.put (.fn k e) u m.1 st) fun st => Fs.after r v ts m.2 st) = some st1 from h)
            exact viaPut hp ha.1 ha.2 h
          | dat e =>
            have h : Fs.after r v ts m.2 ⟨(t, .dat e m.1) :: st.fr, st.bl, st.nb⟩ = some st1 := h
            have hb1 : b1 = [] ∧ RV μ S w (.dat e m.1) (a.tmps.getD t undef) := by
              have h1 : cond e.agg (∃ cs : List Value, a.tmps.getD t undef = .agg cs.toArray ∧ (Rep S w e m.1 cs ∧ b1 = [])) (Rep S w e m.1 [a.tmps.getD t undef] ∧ b1 = []) := h1
              cases hg : e.agg with
              | true => rw [hg] at h1; obtain ⟨cs, e1, h3, h4⟩ := h1; exact ⟨h4, RV.of (by rw [AV.dat_agg, hg]; exact ⟨cs, e1, h3⟩)⟩
              | false => rw [hg] at h1; obtain ⟨h3, h4⟩ := h1; exact ⟨h4, RV.of (by rw [AV.dat_agg, hg]; exact h3)⟩
            obtain ⟨rfl, hrv⟩ := hb1
            have hd' : ∀ k ∈ Fs.tops r v, ∀ y, lk st.bl k = some y → y = .dead := fun k hin => hd k (by simp [hin])
            obtain ⟨μ2, hm2, φ, e3, hφ, hφw⟩ := Fs.after_ok (l := r) (args := v) (ts := ts) (st := ⟨(t, .dat e m.1) :: st.fr, st.bl, st.nb⟩) h ha h2 hB n2 (fun b hbb => hb b (by simp [hbb])) t2 hd' (fun k hin => hk k (by simp [hin])) hq.2
            refine ⟨μ2, ?_, φ ++ [(t, .dat e m.1)], by rw [e3]; simp, fun p hp => ?_, fun u hu => ?_⟩
            rotate_left 2
            · rcases List.mem_cons.1 (show u ∈ t :: Lent.writesOf r ts from hu) with rfl | hu
              · exact ⟨(_, .dat e m.1), by simp, rfl⟩
              · obtain ⟨p, hp, e⟩ := hφw u hu
                exact ⟨p, by simp [hp], e⟩
            · exact ⟨hm2.sim, hm2.mu, hm2.liv, hm2.nb, rfl, hm2.ext, hm2.low⟩
            · rcases List.mem_append.1 hp with hp | hp
              · exact hφ p hp
              · simp only [List.mem_singleton] at hp
                subst hp
                exact RV.move hm2.mu (fun _ h => h) (fun _ _ => rfl) hrv
          | own e =>
            have h : Fs.after r v ts m.2 ⟨(t, .own st.nb) :: st.fr, (st.nb, .row e m.1) :: st.bl, Nat.add st.nb 1⟩ = some st1 := h
            obtain ⟨p, e4, hrow, e5⟩ := h1
            simp only [List.cons.injEq, and_true] at e4
            have hone := Made.one (x := .row e m.1) hB (p := p) (fun hnl => hb p.b (by rw [e5, hnl]; simp)) (by simp) ⟨p, upd_self _ _ _, hrow.1, hrow.2⟩
            rw [← e5] at hone
            have hkn : ∀ k, k ∈ Fs.tops r v → k ≠ st.nb := fun k hin e => by
              obtain ⟨q, hq'⟩ := hk k (by simp [hin])
              exact hB.mu_ne hq' e
            obtain ⟨μ2, hm2, φ, e3, hφ, hφw⟩ := Fs.after_ok (l := r) (args := v) (ts := ts) (μ := upd μ st.nb p) (st := ⟨(t, .own st.nb) :: st.fr, (st.nb, .row e m.1) :: st.bl, Nat.add st.nb 1⟩) h (ArgsAt.move hone.mu ha) h2 hone.sim n2
              (fun b hbb => ⟨(hb b (by simp [hbb])).1, (hb b (by simp [hbb])).2.1, fun hlv => by
                rcases (hone.liv b).1 hlv with h | h
                · exact (hb b (by simp [hbb])).2.2 h
                · exact n3 _ h _ hbb rfl⟩) t2 (fun k hin y hy => by
                have hy : lk ((st.nb, Blk.row e m.1) :: st.bl) k = some y := hy
                rw [lk_cons, if_neg (fun e => hkn k hin e.symm)] at hy
                exact hd k (by simp [hin]) y hy) (fun k hin => by
                obtain ⟨q, hq'⟩ := hk k (by simp [hin])
                exact ⟨q, hone.mu k q hq'⟩) (TopsOk.move hone.mu (fun k hin => hk k (by simp [hin])) hq.2)
            refine ⟨μ2, ?_, φ ++ [(t, .own st.nb)], by rw [e3]; simp, fun q hq' => ?_, fun u hu => ?_⟩
            rotate_left 2
            · rcases List.mem_cons.1 (show u ∈ t :: Lent.writesOf r ts from hu) with rfl | hu
              · exact ⟨(_, .own st.nb), by simp, rfl⟩
              · obtain ⟨p, hp, e⟩ := hφw u hu
                exact ⟨p, by simp [hp], e⟩
            · have := hone.x.trans (st2 := ⟨st.fr, st1.bl, st1.nb⟩) (b2 := b2) ⟨hm2.sim, hm2.mu, hm2.liv, hm2.nb, rfl, hm2.ext, hm2.low⟩
              exact this
            · rcases List.mem_append.1 hq' with hq' | hq'
              · exact hφ q hq'
              · simp only [List.mem_singleton] at hq'
                subst hq'
                refine RV.of_one (u := .own st.nb) ⟨p, hm2.mu _ _ (upd_self _ _ _), ?_⟩ rfl
                exact congrArg (fun z => [z]) e4
          | _ => cases h
    | _ => cases s <;> cases fl <;> cases ts <;> cases h

theorem slots_ok {μ : Nat → Option At} {fr : List (Nat × AV)} {a : Act} (hf : SimF μ S w fr a) : ∀ {ts : List Nat} {v : AV}, slotsOf fr ts = some v → RX μ S w true v (slotVals a ts)
  | [], v, h => by rw [slotsOf] at h; cases h; rfl
  | t :: r, v, h => by
    rw [slotsOf] at h
    obtain ⟨u, hu, h⟩ := ob_some h
    obtain ⟨z, hz, h⟩ := ob_some h
    cases h
    obtain ⟨h1, h2, h3⟩ := one_some hu
    exact ⟨_, _, rfl, RX.item (hf.slot t u h1) h2 h3, slots_ok hf hz⟩

theorem elim_exit {M R α : Type} {F : Nat → M → α} {G : R → α} {j : Nat} {m : M} : ∀ {l : List Nat} {b : Bool} {y : Out M R l b}, Out.exit l b j m = some y → Out.elim l b y F G = F j m
  | [], b, y, h => by rw [Out.exit] at h; cases h
  | [i], false, y, h => by
    rw [Out.exit] at h
    obtain ⟨h1, h⟩ := condT h
    cases h
    rw [beq_true h1]; rfl
  | [i], true, y, h => by
    rw [Out.exit] at h
    obtain ⟨h1, h⟩ := condT h
    cases h
    rw [beq_true h1]; rfl
  | i :: i' :: r, b, y, h => by
    rw [Out.exit] at h
    cases h1 : Nat.beq i j with
    | true => rw [h1] at h; cases h; rw [beq_true h1]; rfl
    | false =>
      rw [h1] at h
      obtain ⟨o, ho, h⟩ := ob_some h
      cases h
      exact elim_exit (l := i' :: r) ho

theorem elim_ret {M R α : Type} {F : Nat → M → α} {G : R → α} {z : R} : ∀ {l : List Nat} {b : Bool} {y : Out M R l b}, Out.ret l b z = some y → Out.elim l b y F G = G z
  | [], false, y, h => by rw [Out.ret] at h; cases h
  | [], true, y, h => by rw [Out.ret] at h; cases h; rfl
  | [i], false, y, h => by rw [Out.ret] at h; cases h
  | [i], true, y, h => by rw [Out.ret] at h; cases h; rfl
  | i :: i' :: r, b, y, h => by
    rw [Out.ret] at h
    obtain ⟨o, ho, h⟩ := ob_some h
    cases h
    exact elim_ret (l := i' :: r) ho

/-- The slots that are not given back, and those of references, have their values still. -/
theorem keep_slots {a a' : Act} {μ : Nat → Option At} : ∀ {l : Fs} {ts : List Nat} {x : l.ty.den} {m : l.back.den} {bF bU : List Nat} {args : AV}, (∀ t ∈ ts, t ∉ Lent.writesOf l ts → a'.tmps.getD t undef = a.tmps.getD t undef) → ts.Nodup →
    FsX S w l (l.merge x m) (slotVals a' ts) bF bU → RX μ S w true args (slotVals a ts) → FsU S w l x (slotVals a ts) bU ∧ ArgsAt μ S w a' l args ts
  | [], ts, x, m, bF, bU, args, hk, hn, hf, hr => by
    obtain ⟨e1, e2, e3⟩ := hf
    have : ts = [] := by cases ts with | nil => rfl | cons _ _ => cases e1
    subst this
    exact ⟨⟨rfl, e3⟩, by cases args <;> trivial⟩
  | (s, fl) :: r, ts, x, m, bF, bU, args, hk, hn, hf, hr => by
    cases ts with
    | nil => cases fl <;> obtain ⟨_, _, _, _, e1, _⟩ := hf <;> cases e1
    | cons t ts =>
      obtain ⟨hn1, hn2⟩ := List.nodup_cons.1 hn
      have hwr : ∀ u ∈ ts, u ∉ Lent.writesOf r ts → u ∉ Lent.writesOf ((s, fl) :: r) (t :: ts) := by
        intro u hu hnu hin
        have : u = t ∨ u ∈ Lent.writesOf r ts := by
          cases fl with
          | false => cases s <;> exact .inr hin
          | true =>
            cases s with
            | dat _ => exact List.mem_cons.1 hin
            | own _ => exact List.mem_cons.1 hin
            | _ => exact .inr hin
        rcases this with rfl | h
        · exact hn1 hu
        · exact hnu h
      have ih : ∀ {x : (Fs.ty r).den} {m : (Fs.back r).den} {bF bU : List Nat} {args : AV}, FsX S w r (Fs.merge r x m) (slotVals a' ts) bF bU → RX μ S w true args (slotVals a ts) → FsU S w r x (slotVals a ts) bU ∧ ArgsAt μ S w a' r args ts :=
        fun h1 h2 => keep_slots (l := r) (fun u hu hnu => hk u (by simp [hu]) (hwr u hu hnu)) hn2 h1 h2
      have notmem : (∀ e, s ≠ .dat e) → (∀ e, s ≠ .own e) → t ∉ Lent.writesOf ((s, fl) :: r) (t :: ts) := by
        intro h1 h2 hin
        have : t ∈ Lent.writesOf r ts := by
          cases fl with
          | false => cases s <;> exact hin
          | true =>
            cases s with
            | dat e => exact absurd rfl (h1 e)
            | own e => exact absurd rfl (h2 e)
            | _ => exact hin
        exact hn1 (writes_sub this)
      cases args with
      | cons u v =>
        obtain ⟨d, dr, e0, hd, hr'⟩ := hr
        simp only [slotVals, List.map_cons, List.cons.injEq] at e0
        obtain ⟨ed, edr⟩ := e0
        have edr : dr = slotVals a ts := edr.symm
        subst edr ed
        cases fl with
        | false =>
          obtain ⟨d', vr, b1, b2, e1, e2, h1, h2⟩ := hf
          simp only [slotVals, List.map_cons, List.cons.injEq] at e1
          obtain ⟨e3, e4⟩ := e1
          have e4 : vr = slotVals a' ts := e4.symm
          subst e4 e3
          obtain ⟨i1, i2⟩ := ih h2 hr'
          have heq : a'.tmps.getD t undef = a.tmps.getD t undef := hk t (by simp) (by
            intro hin
            have : t ∈ Lent.writesOf r ts := by cases s <;> exact hin
            exact hn1 (writes_sub this))
          refine ⟨⟨_, _, b1, b2, rfl, e2, by show ShV S w s x.1 (a.tmps.getD t undef) b1; rw [← heq]; exact h1, i1⟩, ?_⟩
          cases s <;> exact i2
        | true =>
          obtain ⟨d', vr, b1, b2, e1, e2, h1, h2⟩ := hf
          simp only [slotVals, List.map_cons, List.cons.injEq] at e1
          obtain ⟨e3, e4⟩ := e1
          have e4 : vr = slotVals a' ts := e4.symm
          subst e4 e3
          obtain ⟨i1, i2⟩ := ih h2 hr'
          refine ⟨⟨_, _, rfl, i1⟩, ?_⟩
          cases s with
          | box s => exact ⟨by rw [hk t (by simp) (notmem (by simp) (by simp))]; exact RV.of hd, i2⟩
          | map k e => exact ⟨by rw [hk t (by simp) (notmem (by simp) (by simp))]; exact RV.of hd, i2⟩
          | fn k e => exact ⟨by rw [hk t (by simp) (notmem (by simp) (by simp))]; exact RV.of hd, i2⟩
          | _ => exact i2
      | _ => first | exact hr.elim | (simp [RX, slotVals] at hr)
where
  writes_sub : ∀ {l : Fs} {ts : List Nat} {t : Nat}, t ∈ Lent.writesOf l ts → t ∈ ts
    | [], ts, t, h => by cases ts <;> simp [Lent.writesOf] at h
    | (s, fl) :: r, [], t, h => by cases s <;> cases fl <;> simp [Lent.writesOf] at h
    | (s, fl) :: r, u :: ts, t, h => by
      have key : t = u ∨ t ∈ Lent.writesOf r ts := by
        cases fl with
        | false => cases s <;> exact .inr h
        | true =>
          cases s with
          | dat _ => exact List.mem_cons.1 h
          | own _ => exact List.mem_cons.1 h
          | _ => exact .inr h
      rcases key with rfl | h
      · simp
      · exact List.mem_cons_of_mem _ (writes_sub (l := r) h)

end
end Go.Pv

/- Codes run as they are read. -/
set_option linter.unusedVariables false
set_option linter.unusedSimpArgs false
namespace Go.Pv

section
variable {P : Program} {B : Base} {D : Nat → Bool} {μ : Nat → Option At} {S : Nat → Prop} {w : World} {st : St} {a : Act}

theorem lk_smap_junk {fr : List (Nat × AV)} {ws : List Nat} {t : Nat} {v : AV} (h : lk (sapp (smap (fun t => (t, AV.junk)) ws) fr) t = some v) : (v = .junk) ∨ (t ∉ ws ∧ lk fr t = some v) := by
  induction ws with
  | nil => exact .inr ⟨by simp, h⟩
  | cons u r ih =>
    rw [smap, sapp, lk_cons] at h
    by_cases hut : u = t
    · rw [if_pos hut] at h; cases h; exact .inl rfl
    · rw [if_neg hut] at h
      rcases ih h with h1 | ⟨h1, h2⟩
      · exact .inl h1
      · refine .inr ⟨?_, h2⟩
        simp only [List.mem_cons, not_or]
        exact ⟨fun e => hut e.symm, h1⟩

theorem capIs_ok {fr : List (Nat × AV)} (hf : SimF μ S w fr a) : ∀ {js : List Nat} {c : AV} {vs : List Value}, capIs fr js c = true → RX μ S w true c vs → vs = slotVals a js
  | [], c, vs, h, hr => by
    cases c with
    | un => exact hr
    | _ => cases h
  | j :: r, c, vs, h, hr => by
    cases c with
    | cons u c =>
      cases u with
      | ptr k o =>
        rw [capIs] at h
        split at h
        · rename_i k' o' hj
          obtain ⟨h1, h2, h3⟩ := and3_true h
          have h1 := beq_true h1
          have h2 := beq_true h2
          subst h1 h2
          obtain ⟨v, r', e, hv, hr'⟩ := hr
          obtain ⟨p, hp, e1⟩ := hv
          obtain ⟨q, hq, e2⟩ := (hf.slot j _ hj).ptr_inv
          rw [hp] at hq; cases hq
          simp only [List.cons.injEq, and_true] at e1
          rw [e, capIs_ok hf h3 hr', e1, ← e2]; rfl
        · cases h
      | _ => cases h
    | _ => cases h

theorem sameRow_ok {fr : List (Nat × AV)} (hf : SimF μ S w fr a) {i j : Nat} (h : sameRow (lk fr i) (lk fr j) = true) : a.tmps.getD i undef = a.tmps.getD j undef := by
  unfold sameRow at h
  split at h
  · rename_i k k' hi hj
    have e := beq_true h
    subst e
    obtain ⟨p, hp, e1⟩ := (hf.slot i _ hi).own_inv
    obtain ⟨q, hq, e2⟩ := (hf.slot j _ hj).own_inv
    rw [hp] at hq; cases hq
    rw [e1, e2]
  · cases h

theorem aliOk_at {fr : List (Nat × AV)} (hf : SimF μ S w fr a) : ∀ {l : List (Nat × Nat × List Nat)}, aliOk fr l = true → AliAt a l
  | [], _ => fun q hq => by cases hq
  | q :: r, h => by
    rw [aliOk] at h
    cases h0 : Nat.beq q.2.1 0 with
    | true =>
      rw [h0] at h
      simp only [cond_true] at h
      split at h
      · rename_i j js hj
        obtain ⟨h1, h3, _⟩ := and3_true h
        intro q' hq'
        rcases List.mem_cons.1 hq' with rfl | hq'
        · rw [aliV, h0, hj]
          exact sameRow_ok hf h1
        · exact aliOk_at hf h3 q' hq'
      · cases h
    | false =>
      rw [h0] at h
      simp only [cond_false] at h
      split at h
      · rename_i g c hq
        obtain ⟨h1, h2, h3⟩ := and3_true h
        have h1 := beq_true h1
        intro q' hq'
        rcases List.mem_cons.1 hq' with rfl | hq'
        · obtain ⟨vs, e, hr⟩ := (hf.slot _ _ hq).to (by simp) (by simp)
          simp only [List.cons.injEq, and_true] at e
          rw [aliV, h0, e, capIs_ok hf h2 hr, h1]
          rfl
        · exact aliOk_at hf h3 q' hq'
      · cases h

theorem capOf_ok {fr : List (Nat × AV)} (hf : SimF μ S w fr a) : ∀ {js : List Nat} {c : AV}, capOf fr js = some c → RX μ S w true c (slotVals a js)
  | [], c, h => by rw [capOf] at h; cases h; rfl
  | j :: r, c, h => by
    rw [capOf] at h
    split at h
    · rename_i k o hj
      obtain ⟨c', hc, h⟩ := ob_some h
      cases h
      obtain ⟨p, hp, e⟩ := (hf.slot j _ hj).ptr_inv
      exact ⟨a.tmps.getD j undef, slotVals a r, rfl, ⟨p, hp, by rw [e]⟩, capOf_ok hf hc⟩
    · cases h

theorem withAli_ok {fr : List (Nat × AV)} (hf : SimF μ S w fr a) : ∀ {l : List (Nat × Nat × List Nat)}, AliAt a l → SimF μ S w (withAli fr l) a
  | [], _ => hf
  | q :: r, h => by
    have ih := withAli_ok hf (l := r) fun q' hq' => h q' (by simp [hq'])
    have hq0 := h q (by simp)
    rw [withAli]
    split
    · rename_i c hc
      refine ⟨fun t v ht => ?_⟩
      rw [lk_cons] at ht
      by_cases hq : q.1 = t
      · rw [if_pos hq] at ht; cases ht
        subst hq
        rw [hq0, aliV]
        cases h0 : Nat.beq q.2.1 0 with
        | true =>
          rw [h0] at hc
          have hc : rowAli fr q.2.2 = some c := hc
          unfold rowAli at hc
          split at hc
          · rename_i j js hj
            split at hc
            · rename_i k hk
              cases hc
              rw [hj]
              exact hf.slot j _ hk
            · cases hc
          · cases hc
        | false =>
          rw [h0] at hc
          obtain ⟨c', hc', hc⟩ := ob_some (show (ob (capOf fr q.2.2) fun c => some (AV.fn q.2.1 c)) = some c from hc)
          cases hc
          exact RV.of (a := .fn q.2.1 c') ⟨slotVals a q.2.2, rfl, capOf_ok hf hc'⟩
      · rw [if_neg hq] at ht; exact ih.slot t v ht
    · exact ih

theorem jrounds_mono {c : Code} {l : Nat} {Q Q' : Exit → Act → World → Prop} (hq : ∀ e a w, Q e a w → Q' e a w) : ∀ {n : Nat} {a : Act} {w : World}, jrounds P c l Q n a w → jrounds P c l Q' n a w
  | 0, _, _, h => h
  | n + 1, a, w, h => wp_mono h fun e a' w' hh => by
    cases e with
    | goto l' => exact ⟨hh.1, jrounds_mono hq hh.2⟩
    | normal => exact hq _ _ _ hh
    | exit i => exact hq _ _ _ hh
    | ret => exact hq _ _ _ hh
    | panic c => exact hq _ _ _ hh
    | outgrown => exact hq _ _ _ hh
theorem LRun.mono {c : Code} {j : Option Nat} {Q Q' : Exit → Act → World → Prop} (hq : ∀ e a w, Q e a w → Q' e a w) {a : Act} {w : World} (h : LRun P c j Q a w) : LRun P c j Q' a w := by
  cases j with
  | none => exact wp_mono h hq
  | some l => obtain ⟨k, h⟩ := h; exact ⟨k, jrounds_mono hq h⟩
theorem least {p : Nat → Prop} : (∃ n, p n) → ∃ n, p n ∧ ∀ m, p m → n ≤ m := by
  rintro ⟨n, hn⟩
  induction n using Nat.strongRecOn with
  | _ n ih =>
    by_cases h : ∃ m, m < n ∧ p m
    · obtain ⟨m, hm, hp⟩ := h; exact ih m hm hp
    · exact ⟨n, hn, fun m hm => Nat.le_of_not_lt fun hlt => h ⟨m, hlt, hm⟩⟩
open Classical in
noncomputable def lst (p : Nat → Prop) : Nat := if h : ∃ n, p n then Classical.choose (least h) else 0
theorem lst_ok {p : Nat → Prop} (h : ∃ n, p n) : p (lst p) ∧ ∀ m, p m → lst p ≤ m := by
  unfold lst
  rw [dif_pos h]
  exact Classical.choose_spec (least h)
/-- A scope with a label. -/
theorem wp_scope_rounds {c rest : Code} {l : Nat} (hf : findLabel c l = some rest) {Q : Exit → Act → World → Prop} {a : Act} {w : World} (first : c.wp P (Exit.jump l (fun a w => ∃ k, jrounds P rest l Q k a w) Q) a w) : (Code.scope c).wp P Q a w := by
  refine wp_scope_jumps l (fun a w => ∃ k, jrounds P rest l Q k a w) (fun a w => lst fun k => jrounds P rest l Q k a w) hf first ?_
  intro a w hJ
  obtain ⟨h1, _⟩ := lst_ok hJ
  cases hk : lst (fun k => jrounds P rest l Q k a w) with
  | zero => rw [hk] at h1; exact h1.elim
  | succ m =>
    rw [hk] at h1
    refine wp_mono h1 ?_
    intro e a' w' hh
    cases e with
    | goto l' =>
      obtain ⟨rfl, hh⟩ := hh
      exact ⟨rfl, ⟨m, hh⟩, Nat.lt_succ_of_le ((lst_ok ⟨m, hh⟩).2 m hh)⟩
    | normal => exact hh
    | exit i => exact hh
    | ret => exact hh
    | panic c => exact hh
    | outgrown => exact hh

theorem sameJ_eq : ∀ {a b : Option Nat}, sameJ a b = true → a = b
  | none, none, _ => rfl
  | some a, some b, h => by rw [beq_true h]
  | none, some _, h => by cases h
  | some _, none, h => by cases h

/-- A loop is met. -/
theorem callLoop_ok {R : Type} {fn : Func} {c : Code} (hT : tmpsOnly fn.results.toList = true → B.T) (hD : ∀ t, D t = true → t < B.a.tmps.size) (hc : ∀ t ∈ dstsOf c, D t = true) {K : Ex → St → Option R} {KR : AV → St → Option R} {r : R} (hn : Now B D μ S w st a) {j : Option Nat} :
    ∀ {l : List Lent}, (∀ e ∈ l, LentOk P fn c e) → callLoop j st K KR l = some r → LRun P c j (Post P B D fn K KR r) a w
  | [], _, h => by rw [callLoop] at h; cases h
  | e :: es, hE, h => by
    have hB := hn.step.1
    rw [callLoop] at h
    cases hj : sameJ e.jmp j with
    | false =>
      rw [hj] at h
      exact callLoop_ok hT hD hc hn (fun e' he' => hE e' (by simp [he'])) h
    | true =>
    rw [hj] at h
    have hj := sameJ_eq hj
    subst hj
    simp only [cond_true] at h
    split at h
    · rename_i p hp
      obtain ⟨v, hv, hp⟩ := ob_some hp
      obtain ⟨g, hg, hp⟩ := ob_some hp
      cases hp
      obtain ⟨hcc, h⟩ := condT h
      obtain ⟨hal, hcc, _⟩ := and3_true hcc
      obtain ⟨hap, hsane, hbx⟩ := and3_true hcc
      obtain ⟨y, hy, h⟩ := ob_some h
      have hr := slots_ok hn.fr hv
      obtain ⟨hX, hkr, hkg, _⟩ := Sh.get_ok (S' := fun b => S b ∨ Of μ st.bl g.gone b) hB hg hr (fun _ => Fs.sh_list _) (fun _ h => .inl h) (fun _ h => .inr h)
      obtain ⟨hnd, hdis⟩ := apartK_ok hap
      have hoff : ∀ {ks : List Nat} b, Of μ st.bl ks b → Liv μ st.bl b := fun b ⟨k, _, x, p, h1, h2, h3, h4, h5⟩ => ⟨k, x, p, h1, h2, h3, h4, h5⟩
      have hown : Own (fun b => S b ∨ Of μ st.bl g.gone b) w (blocksOf μ g.refs) := by
        refine ⟨fun b hb => ?_, blocksOf_nodup hB hkr hnd, fun b hb => ?_, hB.gl.move (fun _ h => .inl h) (fun _ _ => rfl)⟩
        · have h1 := (mem_blocksOf hkr).1 hb
          obtain ⟨h2, h3⟩ := hB.old b (hoff b h1)
          refine ⟨h2, ?_⟩
          rintro (h4 | ⟨k', hk', x', p', g1, g2, g3, g4, g5⟩)
          · exact h3 h4
          · obtain ⟨k, hk, x, p, i1, i2, i3, i4, i5⟩ := h1
            have := hB.inj k k' x x' p p' i1 g1 i2 g2 i3 g3 i4 g4 (i5.trans g5.symm)
            subst this
            exact hdis k hk hk'
        · rcases hb with h1 | h1
          · exact hB.sb b h1
          · exact (hB.old b (hoff b h1)).1
      obtain ⟨hdst, hsl, hsw, hrun⟩ := hE e (by simp)
      refine LRun.mono ?_ (hrun _ w a g.x _ y hown hX (aliOk_at hn.fr hal) (fun t ht => by rw [hn.size]; exact hD t (hc t ht)) hy)
      intro ex a' w' hq
      have evo : ∀ {S' : Nat → Prop} {bs'}, Ran (fun b => S b ∨ Of μ st.bl g.gone b) w (blocksOf μ g.refs) S' w' bs' → ∀ {μ' bl' nb'}, SimB μ' S' w' bl' nb' → (∀ k p, μ k = some p → μ' k = some p) → (st.nb ≤ nb' ∧ ∀ k, k < st.nb → μ' k = μ k) →
          (∀ b, Liv μ' bl' b → Liv μ st.bl b ∨ w.heap.size ≤ b) → StepB μ S w st.bl st.nb μ' S' w' bl' nb' := by
        intro S' bs' hran μ' bl' nb' hs hm hnb hlv
        refine ⟨hs, ⟨hran.os, hran.tape, hran.output, hran.size, fun b hb hl => hran.same b hb (fun hin => hl (hoff b ((mem_blocksOf hkr).1 hin))), fun b hb => hran.sub b (.inl hb), fun b hb => ?_, hlv, hm⟩, hnb⟩
        rcases hran.new b hb with (h | h) | h | h
        · exact .inl h
        · exact .inr (.inr (hoff b h))
        · exact .inr (.inl h)
        · exact .inr (.inr (hoff b ((mem_blocksOf hkr).1 h)))
      have back : ∀ {S' : Nat → Prop} {bs'}, Ran (fun b => S b ∨ Of μ st.bl g.gone b) w (blocksOf μ g.refs) S' w' bs' → ∀ b ∈ bs', Liv μ st.bl b ∨ w.heap.size ≤ b := by
        intro S' bs' hran b hb
        rcases hran.liv b hb with h | h
        · exact .inl (hoff b ((mem_blocksOf hkr).1 h))
        · exact .inr h
      cases ex with
      | exit i =>
        obtain ⟨m, hm, S', bs', hran, hback, hdef, hsize, hkeep⟩ := hq
        rw [elim_exit hm] at h
        obtain ⟨st1, haf, hK⟩ := ob_some h
        obtain ⟨bF, bU, hfx, hperm⟩ := FsX.of hback
        have ndp := (hperm.nodup_iff).1 hran.nd
        obtain ⟨ndF, ndU, ndFU⟩ := List.nodup_append.1 ndp
        have hbU : ∀ b ∈ bU, b ∈ bs' := fun b hb => hperm.mem_iff.2 (List.mem_append_right _ hb)
        have hbF : ∀ b ∈ bF, b ∈ bs' := fun b hb => hperm.mem_iff.2 (List.mem_append_left _ hb)
        have hSS : ∀ b, S b → S' b := fun b hb => hran.sub b (.inl hb)
        have hrm : RX μ S' w' true v (slotVals a e.slots) := RX.move (fun _ _ h => h) hSS (fun b hb => hran.still hown b (.inl hb)) hr
        obtain ⟨hfu, hargs⟩ := keep_slots (a := a) (a' := a') (fun t ht hnw => hkeep t (fun hin => by
          have := hdst t hin
          rw [Lent.D, has_iff, sapp_eq, List.mem_append] at this
          rcases this with h | h
          · exact hsw t ht h
          · exact hnw h)) hsl hfx hrm
        obtain ⟨sim1, liv1, dead1⟩ := Fs.behind hB hsane hbx hg hr hap hkr hkg false (by simp) hran hfu hbU
        have htsub := Fs.tops_sub hg
        have hlsub := Fs.lent_sub hg
        obtain ⟨μ1, hm1, φ, hφ1, hφ2, hφ3⟩ := Fs.after_ok (S := S') (w := w') haf hargs (FsX.b hfx) sim1 ndF
          (fun b hb => by
            obtain ⟨o1, o2⟩ := hran.old b (hbF b hb)
            refine ⟨o1, o2, fun hl => ?_⟩
            obtain ⟨l1, l2⟩ := liv1 b hl
            rcases hran.liv b (hbF b hb) with h3 | h3
            · exact ndFU b hb b (l2 h3) rfl
            · have := (hB.old b l1).1; omega) ((htsub.trans hlsub).nodup hnd)
          (fun k hk y hy => by
            have := dead1 k (htsub.mem hk)
            have hy : lk (kill (sapp (Fs.lent st.bl e.ins v) (cond false [] g.gone)) st.bl) k = some y := hy
            rw [this] at hy; cases hy; rfl)
          (fun k hk => by obtain ⟨x, p, _, _, hp⟩ := hkr k (hlsub.mem (htsub.mem hk)); exact ⟨p, hp⟩) (TopsOk.of hB hg)
        obtain ⟨ε, hε⟩ := hm1.ext
        have hbl : st1.bl = (ε ++ (sapp (Fs.lent st.bl e.ins v) g.gone).map (fun k => (k, Blk.dead))) ++ st.bl := by
          have hε : st1.bl = ε ++ kill (sapp (Fs.lent st.bl e.ins v) g.gone) st.bl := hε
          rw [hε, kill_eq, List.append_assoc]
        have hsb : StepB μ S w st.bl st.nb μ1 S' w' st1.bl st1.nb := evo hran hm1.sim hm1.mu ⟨hm1.nb, hm1.low⟩ (fun b hb => by
          rcases (hm1.liv b).1 hb with h | h
          · exact .inl (liv1 b h).1
          · exact back hran b (hbF b h))
        refine ⟨μ1, S', st1, ⟨hn.step.trans hsb, ⟨fun t u ht => ?_⟩, hsize.trans hn.size, fun t ht => ?_, ?_, ?_, hn.mks.trans hn.step.2.1.size (hdef.imp hT) (hsb.mark hB)⟩, hK⟩
        · -- a slot
          have split : ∀ {φ fr : List (Nat × AV)} {t : Nat} {u : AV}, lk (φ ++ fr) t = some u → (t, u) ∈ φ ∨ ((∀ q ∈ φ, q.1 ≠ t) ∧ lk fr t = some u) := by
            intro φ fr t u h
            induction φ with
            | nil => exact .inr ⟨by simp, h⟩
            | cons q r ih =>
              rw [List.cons_append, lk_cons] at h
              by_cases hq : q.1 = t
              · rw [if_pos hq] at h; cases h; subst hq; exact .inl (by simp)
              · rw [if_neg hq] at h
                rcases ih h with h | ⟨h1, h2⟩
                · exact .inl (List.mem_cons_of_mem _ h)
                · exact .inr ⟨fun p hp => by
                    rcases List.mem_cons.1 hp with rfl | hp
                    · exact hq
                    · exact h1 p hp, h2⟩
          rw [hφ1] at ht
          rcases split ht with hin | ⟨hnφ, ht⟩
          · exact hφ2 _ hin
          · have ht : lk (sapp (smap (fun t => (t, AV.junk)) e.writes) st.fr) t = some u := ht
            rcases lk_smap_junk ht with rfl | ⟨hnw, ht⟩
            · trivial
            · by_cases hin : t ∈ dstsOf c
              · -- given back: its value is new
                have := hdst t hin
                rw [Lent.D, has_iff, sapp_eq, List.mem_append] at this
                rcases this with h | h
                · exact absurd h hnw
                · obtain ⟨p, hp, e⟩ := hφ3 t h
                  exact absurd e (hnφ p hp)
              · rw [hkeep t hin]
                exact (hn.fr.slot t u ht).step hB hsb
        · by_cases hin : t ∈ dstsOf c
          · have := hc t hin; rw [ht] at this; cases this
          · rw [hkeep t hin]; exact hn.keep t ht
        · obtain ⟨δ, hδ⟩ := hn.ext
          exact ⟨_, by rw [hbl, hδ, ← List.append_assoc]⟩
        · obtain ⟨ψ, hψ⟩ := hn.fext
          exact ⟨φ ++ smap (fun t => (t, AV.junk)) e.writes ++ ψ, by rw [hφ1]; show φ ++ sapp _ st.fr = _; rw [sapp_eq, hψ]; simp [List.append_assoc]⟩
      | ret =>
        obtain ⟨z, hz, S', bs', x, hran, hres, hsh, hdef⟩ := hq
        rw [elim_ret hz] at h
        obtain ⟨sim1, liv1⟩ := Keys.left hB hkr hkg hran
        obtain ⟨μ2, hm2, hv2⟩ := Sh.mk_r (st := ⟨st.fr, kill (sapp g.refs g.gone) st.bl, st.nb⟩) hsh sim1 hran.nd (fun b hb => by
          obtain ⟨o1, o2⟩ := hran.old b hb
          refine ⟨o1, o2, fun hl => ?_⟩
          obtain ⟨l1, l2⟩ := liv1 b hl
          rcases hran.liv b hb with h3 | h3
          · exact l2 h3
          · have := (hB.old b l1).1; omega)
        obtain ⟨ε, hε, _⟩ := hm2.ext
        have hε : (Sh.mk e.res z ⟨st.fr, kill (sapp g.refs g.gone) st.bl, st.nb⟩).2.bl = ε ++ kill (sapp g.refs g.gone) st.bl := hε
        have hsb : StepB μ S w st.bl st.nb μ2 S' w' (Sh.mk e.res z ⟨st.fr, kill (sapp g.refs g.gone) st.bl, st.nb⟩).2.bl (Sh.mk e.res z ⟨st.fr, kill (sapp g.refs g.gone) st.bl, st.nb⟩).2.nb := evo hran hm2.sim hm2.mu ⟨hm2.nb, hm2.low⟩ (fun b hb => by
          rcases (hm2.liv b).1 hb with h | h
          · exact .inl (liv1 b h).1
          · exact back hran b h)
        refine ⟨μ2, S', _, _, x, hn.step.trans hsb, ?_, hn.mks.trans hn.step.2.1.size (hdef.imp hT) (hsb.mark hB), h, hres, hv2⟩
        · obtain ⟨δ, hδ⟩ := hn.ext
          exact ⟨ε ++ (sapp g.refs g.gone).map (fun k => (k, Blk.dead)) ++ δ, by rw [hε, kill_eq, hδ]; simp [List.append_assoc]⟩
      | normal => exact hq.elim
      | goto l => exact hq.elim
      | panic c => exact hq.elim
      | outgrown => exact hq.elim
    · exact callLoop_ok hT hD hc hn (fun e' he' => hE e' (by simp [he'])) h

theorem findLabel_of : ∀ {c : Code} {l : Nat}, labOf c = some l → ∃ rest, findLabel c l = some rest ∧ ∀ t ∈ dstsOf rest, t ∈ dstsOf c
  | .seq a b, l, h => by
    rw [labOf] at h
    split at h
    · rename_i l' hl
      cases h
      obtain ⟨r, h1, h2⟩ := findLabel_of hl
      refine ⟨.seq r b, by rw [findLabel, h1], fun t ht => ?_⟩
      rw [dstsOf, sapp_eq, List.mem_append] at ht ⊢
      exact ht.imp (h2 t) id
    · rename_i hl
      obtain ⟨r, h1, h2⟩ := findLabel_of h
      have hnone : ∀ {c : Code} {l : Nat}, labOf c = none → findLabel c l = none := by
        intro c
        induction c with
        | seq x y ihx ihy =>
          intro l h
          rw [labOf] at h
          split at h
          · cases h
          · rename_i hx
            rw [findLabel, ihx hx, ihy h]
        | label l' => intro l h; cases h
        | _ => intro l h; rfl
      refine ⟨r, by rw [findLabel, hnone hl]; exact h1, fun t ht => ?_⟩
      rw [dstsOf, sapp_eq, List.mem_append]
      exact .inr (h2 t ht)
  | .label l', l, h => by
    rw [labOf] at h
    cases h
    exact ⟨.skip, by rw [findLabel]; simp, fun t ht => by cases ht⟩
  | .skip, _, h => by cases h
  | .region .., _, h => by cases h
  | .cond .., _, h => by cases h
  | .block .., _, h => by cases h
  | .loop .., _, h => by cases h
  | .rangeFunc .., _, h => by cases h
  | .exit .., _, h => by cases h
  | .scope .., _, h => by cases h
  | .goto .., _, h => by cases h
  | .ret, _, h => by cases h
  | .refuse .., _, h => by cases h

/-- A code runs as it is read. -/
theorem ev_ok {R : Type} {L : Lib} (hL : LibOk P L) {inl : Nat → AV → St → (AV → St → Option R) → Option R} (hI : InlsOk P inl) {f : Nat} {fn : Func} (hT : tmpsOnly fn.results.toList = true → B.T) (hD : ∀ t, D t = true → t < B.a.tmps.size) {r : R} :
    ∀ {c : Code} {n : Nat} {K : Ex → St → Option R} {KR : AV → St → Option R} {μ S w st a}, ev L inl f fn.results.toList c n K KR st = some r → Now B D μ S w st a → (∀ t ∈ dstsOf c, D t = true) →
      (∀ p ∈ loopsIn c n, ∀ e ∈ L.loop f p.1, LentOk P fn p.2 e) → (∀ p ∈ rngsIn c n, ∀ rd, L.rng f p.1 = some rd → RngOk P p.2 rd) → c.wp P (Post P B D fn K KR r) a w
  | .skip, n, K, KR, μ, S, w, st, a, h, hn, hd, hl, hr => wp_skip ⟨μ, S, st, hn, h⟩
  | .region id ops false, n, K, KR, μ, S, w, st, a, h, hn, hd, hl, hr => by
    refine wp_region ?_
    rw [List.range_eq_range']
    have := seqOps_ok (ops := ops) (l := ops.toList) (i := 0) (Q := Post P B D fn K KR r) hL hI.ok hD hd (fun μ' S' w' st' a' hn' hk => ⟨μ', S', st', hn', hk⟩) (by simp) h hn
    simpa using this
  | .region id ops true, n, K, KR, μ, S, w, st, a, h, hn, hd, hl, hr =>
    drawOps_ok hL hI hD hd (fun μ' S' w' st' a' hn' hk => ⟨μ', S', st', hn', hk⟩) h hn
  | .seq x y, n, K, KR, μ, S, w, st, a, h, hn, hd, hl, hr => by
    rw [dstsOf, sapp_eq] at hd
    rw [loopsIn, sapp_eq] at hl
    rw [rngsIn, sapp_eq] at hr
    refine wp_seq (wp_mono (ev_ok hL hI hT hD (c := x) h hn (fun t ht => hd t (by simp [ht])) (fun p hp => hl p (by simp [hp])) (fun p hp => hr p (by simp [hp]))) ?_)
    intro e a' w' hq
    cases e with
    | normal =>
      obtain ⟨μ', S', st', hn', hk⟩ := hq
      exact ev_ok hL hI hT hD (c := y) hk hn' (fun t ht => hd t (by simp [ht])) (fun p hp => hl p (by simp [hp])) (fun p hp => hr p (by simp [hp]))
    | exit i => exact hq
    | ret => exact hq
    | goto l => exact hq
    | panic c => exact hq
    | outgrown => exact hq
  | .cond c x y, n, K, KR, μ, S, w, st, a, h, hn, hd, hl, hr => by
    rw [dstsOf, sapp_eq] at hd
    rw [loopsIn, sapp_eq] at hl
    rw [rngsIn, sapp_eq] at hr
    rw [ev] at h
    obtain ⟨v, hv, h⟩ := ob_some h
    have hrv := (St.opd_ok hn.fr hv).1
    split at h
    · rename_i t
      have hb := hrv.bool_inv
      cases t with
      | true => exact wp_cond_true hb (ev_ok hL hI hT hD (c := x) h hn (fun t ht => hd t (by simp [ht])) (fun p hp => hl p (by simp [hp])) (fun p hp => hr p (by simp [hp])))
      | false => exact wp_cond_false hb (ev_ok hL hI hT hD (c := y) h hn (fun t ht => hd t (by simp [ht])) (fun p hp => hl p (by simp [hp])) (fun p hp => hr p (by simp [hp])))
    · cases h
  | .block i c, n, K, KR, μ, S, w, st, a, h, hn, hd, hl, hr => by
    rw [ev] at h
    refine wp_block (wp_mono (ev_ok hL hI hT hD (c := c) h hn hd hl hr) ?_)
    intro e a' w' hq
    cases e with
    | normal => exact hq
    | exit j =>
      obtain ⟨μ', S', st', hn', hk⟩ := hq
      show if j = i then _ else _
      cases hji : Nat.beq j i with
      | true =>
        simp only [hji] at hk
        rw [if_pos (beq_true hji)]
        exact ⟨μ', S', st', hn', hk⟩
      | false =>
        simp only [hji] at hk
        rw [if_neg (beq_false hji)]
        exact ⟨μ', S', st', hn', hk⟩
    | ret => exact hq
    | goto l => exact hq
    | panic c => exact hq
    | outgrown => exact hq
  | .loop c, n, K, KR, μ, S, w, st, a, h, hn, hd, hl, hr => by
    rw [ev] at h
    split at h
    · -- few rounds
      have ih : ∀ {K : Ex → St → Option R} {KR : AV → St → Option R} {μ S w st a}, ev L inl f fn.results.toList c n K KR st = some r → Now B D μ S w st a → c.wp P (Post P B D fn K KR r) a w :=
        fun h hn => ev_ok hL hI hT hD (c := c) h hn hd (fun p hp => hl p (by rw [loopsIn]; exact List.mem_cons_of_mem _ hp)) hr
      have key : ∀ (m : Nat) {μ S w st a}, unroll (fun K KR st => ev L inl f fn.results.toList c n K KR st) m K KR st = some r → Now B D μ S w st a → Code.rounds P c (Post P B D fn K KR r) m a w := by
        intro m
        induction m with
        | zero => intro μ S w st a h hn; rw [unroll] at h; cases h
        | succ m ihm =>
          intro μ S w st a h hn
          rw [unroll] at h
          refine wp_mono (ih h hn) ?_
          intro e a' w' hq
          cases e with
          | normal =>
            obtain ⟨μ', S', st', hn', hk⟩ := hq
            exact ihm hk hn'
          | exit i => exact hq
          | ret => exact hq
          | goto l => exact hq
          | panic c => exact hq
          | outgrown => exact hq
      exact wp_loop_rounds 8 (key 8 h hn)
    · rename_i l hne
      refine callLoop_ok (c := c) (j := none) hT hD hd hn (l := L.loop f n) (fun e he => hl (n, c) (by rw [loopsIn]; simp) e he) ?_
      cases hlf : L.loop f n with
      | nil => exact absurd hlf hne
      | cons e es => rw [hlf] at h; exact h
  | .exit i, n, K, KR, μ, S, w, st, a, h, hn, hd, hl, hr => wp_exit ⟨μ, S, st, hn, h⟩
  | .ret, n, K, KR, μ, S, w, st, a, h, hn, hd, hl, hr => by
    rw [ev] at h
    obtain ⟨v, hv, h⟩ := ob_some h
    obtain ⟨x, h1, h2⟩ := results_ok hL.ti hn.step.1 hn.fr hv
    exact wp_ret ⟨μ, S, st, resOne v, x, hn.step, hn.ext, hn.mks, h, h1, h2⟩
  | .goto l, n, K, KR, μ, S, w, st, a, h, hn, hd, hl, hr => wp_goto ⟨μ, S, st, hn, h⟩
  | .label l, n, K, KR, μ, S, w, st, a, h, hn, hd, hl, hr => wp_label ⟨μ, S, st, hn, h⟩
  | .scope x, n, K, KR, μ, S, w, st, a, h, hn, hd, hl, hr => by
    rw [ev] at h
    rw [loopsIn] at hl
    split at h
    · rename_i l hlab
      rw [hlab] at hl
      obtain ⟨rest, hrest, hrd⟩ := findLabel_of hlab
      refine wp_scope_rounds hrest ?_
      refine wp_mono (ev_ok hL hI hT hD (c := x) h hn hd (fun p hp => hl p (List.mem_cons_of_mem _ hp)) hr) ?_
      intro e a' w' hq
      cases e with
      | goto j =>
        obtain ⟨μ', S', st', hn', hk⟩ := hq
        obtain ⟨hjl, hk⟩ := condT hk
        refine ⟨beq_true hjl, ?_⟩
        have hE : ∀ e ∈ L.loop f (jid l), LentOk P fn rest e := fun e he => by
          have := hl (jid l, fromLab l x) List.mem_cons_self e he
          unfold fromLab at this
          rw [hrest] at this
          exact this
        exact callLoop_ok (c := rest) hT hD (fun t ht => hd t (hrd t ht)) hn' hE hk
      | normal => exact hq
      | exit i => exact hq
      | ret => exact hq
      | panic c => exact hq
      | outgrown => exact hq
    · cases h
  | .refuse x, n, K, KR, μ, S, w, st, a, h, hn, hd, hl, hr => by simp [ev] at h
  | .rangeFunc x y z u, n, K, KR, μ, S, w, st, a, h, hn, hd, hl, hr => by
    rw [ev] at h
    obtain ⟨ht, h⟩ := condT h
    split at h
    · rename_i rd hrd
      obtain ⟨⟨b, st'⟩, hst, h⟩ := ob_some h
      obtain ⟨hb, h⟩ := condT h
      have hb : b = true := hb
      subst hb
      refine wp_mono (hr (n, .rangeFunc x y z u) (by rw [rngsIn]; simp) rd hrd μ S w st st' a hst hn.step.1 hn.fr (fun t ht => by rw [hn.size]; exact hD t (hd t ht))) ?_
      rintro e a' w' ⟨rfl, e1, D', μ', S', e2, h1, h2, h3, hs, hf, ⟨ε, e3⟩, φ, e4⟩
      refine ⟨μ', S', st', ⟨hn.step.trans hs, ⟨fun t v hv => by rw [e1]; exact hf.slot t v hv⟩, by rw [e1]; exact hn.size, fun t hd => by rw [e1]; exact hn.keep t hd, ?_, ?_, ?_⟩, h⟩
      · obtain ⟨δ, e⟩ := hn.ext; exact ⟨ε ++ δ, by rw [e3, e, List.append_assoc]⟩
      · obtain ⟨δ, e⟩ := hn.fext; exact ⟨φ ++ δ, by rw [e4, e, List.append_assoc]⟩
      · refine hn.mks.trans hn.step.2.1.size ⟨[D'], by simp, e2, .inr (hT ht), fun D hD => ?_⟩ (hs.mark hn.step.1)
        simp only [List.mem_singleton] at hD
        subst hD
        exact ⟨h1, h2, h3⟩
    · cases h

end
end Go.Pv

/- Functions and loops by their own code: what they compute is what is known of them. -/
set_option linter.unusedVariables false
set_option linter.unusedSimpArgs false
namespace Go.Pv

section
variable {P : Program} {μ : Nat → Option At} {S : Nat → Prop} {w : World}

theorem initFr_ok : ∀ {c : AV} {vs : List Value} {i : Nat} {t : Nat} {v : AV}, RX μ S w true c vs → lk (initFr i c) t = some v → i ≤ t ∧ ∃ d, vs[t - i]? = some d ∧ RV μ S w v d := by
  intro c
  induction c with
  | cons a b iha ihb =>
    intro vs i t v h hl
    obtain ⟨d, r, e, h1, h2⟩ := h
    subst e
    rw [initFr, lk_cons] at hl
    by_cases hit : i = t
    · rw [if_pos hit] at hl; cases hl
      subst hit
      exact ⟨Nat.le_refl _, d, by simp, RV.of h1⟩
    · rw [if_neg hit] at hl
      have hl : lk (initFr (i + 1) b) t = some v := hl
      obtain ⟨h3, d', h4, h5⟩ := ihb h2 hl
      refine ⟨by omega, d', ?_, h5⟩
      have : t - i = (t - (i + 1)) + 1 := by omega
      rw [this]; simpa using h4
  | _ => intro vs i t v h hl; cases hl

theorem start_fr {c : AV} {vs : List Value} (h : RX μ S w true c vs) (n : Nat) : SimF μ S w (initFr 0 c) { tmps := vs.toArray ++ Array.replicate n undef, defers := [] } := by
  refine ⟨fun t v ht => ?_⟩
  obtain ⟨_, d, h1, h2⟩ := initFr_ok h ht
  rw [Nat.sub_zero] at h1
  have : (vs.toArray ++ Array.replicate n undef).getD t undef = d := by
    have hlt : t < vs.length := (List.getElem?_eq_some_iff.1 h1).1
    rw [Array.getD_eq_getD_getElem?, Array.getElem?_append_left (by simpa using hlt)]
    simp [h1]
  show RV μ S w v ((vs.toArray ++ Array.replicate n undef).getD t undef)
  rw [this]; exact h2

theorem tmpsOnly_run {fn : Func} (h : tmpsOnly fn.results.toList = true) {tmps : Array Value} {x : Value} {w : World} (hr : (results fn tmps).run P w = .ok x w) (w' : World) : (results fn tmps).run P w' = .ok x w' := by
  have key : ∀ l : List ResultVar, tmpsOnly l = true → ∃ vs : List Value, ∀ w, (l.mapM (resOf tmps)).run P w = .ok vs w := by
    intro l
    induction l with
    | nil => exact fun _ => ⟨[], fun w => by simp⟩
    | cons r l ih =>
      cases r with
      | tmp t =>
        intro h
        obtain ⟨vs, hv⟩ := ih h
        refine ⟨tmps.getD t undef :: vs, fun w => ?_⟩
        rw [List.mapM_cons, Sem.run_bind]
        simp only [resOf, Sem.run_bind, Sem.run_pure, Result.andThen_ok, hv w]
      | cell c t => intro h; cases h
  obtain ⟨vs, hv⟩ := key _ h
  have all : ∀ w, (results fn tmps).run P w = .ok (if h : vs.toArray.size = 1 then vs.toArray[0] else .tuple vs.toArray) w := by
    intro w
    have e0 : results fn tmps = (do
        let vs ← fn.results.mapM (resOf tmps)
        pure (if h : vs.size = 1 then vs[0] else .tuple vs) : Sem Value) := by
      unfold results
      congr 2
    have e : (fn.results.mapM (resOf tmps)).run P w = .ok vs.toArray w := by
      rw [Array.mapM_eq_mapM_toList, Sem.run_map]
      rw [hv]; rfl
    rw [e0, Sem.run_bind, e]
    rfl
  have e := hr.symm.trans (all w)
  rw [all w']
  cases e
  rfl

theorem leaves_marks {fn : Func} {tmps : Array Value} {R : Ending → World → Prop} : ∀ (Ds : List Nat) (w : World), Ds.Nodup → (∀ D ∈ Ds, w.heap[D]? = some (.deferred (some []))) →
    (∃ v, (results fn tmps).run P (shut Ds w) = .ok v (shut Ds w) ∧ R (.returned v) (shut Ds w)) → LeavesInM Fence.wide 0 P fn tmps R (Ds.map mark) .returning w
  | [], w, _, _, h => h
  | D :: r, w, hn, hD, h => by
    obtain ⟨n1, n2⟩ := List.nodup_cons.1 hn
    refine ⟨by simp, .inl ⟨D, w.putObj D (.deferred none), rfl, run_takeDeferred (hD D (by simp)), ?_⟩⟩
    refine leaves_marks r _ n2 (fun E hE => ?_) h
    rw [World.putObj_heap_other (fun e => n1 (by rw [← e]; exact hE))]
    exact hD E (by simp [hE])

/-- A function's contract from its body, loops over functions among it. -/
theorem calls_of_marks {f : Nat} {fn : Func} {c : Code} {args : Array Value} {w : World} {R : Ending → World → Prop} (hf : P.funcs[f]? = some fn) (hb : fn.body = some c)
    (h : c.wp P (fun e a w' => match e with
      | .normal | .ret => ∃ S : Nat → Prop, Mk (tmpsOnly fn.results.toList = true) w.heap.size [] S w' a.defers ∧ ∃ v, (results fn a.tmps).run P w' = .ok v w' ∧ ∀ w'', Shut w.heap.size S w' w'' → R (.returned v) w''
      | _ => False) { tmps := args ++ Array.replicate (fn.ntmps - args.size) undef, defers := [] } w) : Calls P f args w R := by
  refine callsIn_wide.1 (callsIn_of_wp_marks (F := Fence.wide) (n := 0) hf hb trivial ?_)
  refine wpIn_wide.2 (wp_mono h ?_)
  have key : ∀ {a : Act} {w' : World}, (∃ S : Nat → Prop, Mk (tmpsOnly fn.results.toList = true) w.heap.size [] S w' a.defers ∧ ∃ v, (results fn a.tmps).run P w' = .ok v w' ∧ ∀ w'', Shut w.heap.size S w' w'' → R (.returned v) w'') →
      LeavesInM Fence.wide 0 P fn a.tmps R a.defers .returning w' := by
    rintro a w' ⟨S, ⟨Ds, h1, h2, h3, h4⟩, v, h5, h6⟩
    rw [h2, List.append_nil]
    refine leaves_marks Ds w' h1 (fun D hD => (h4 D hD).2.2) ⟨v, ?_, h6 _ ⟨Ds, h4, rfl⟩⟩
    rcases h3 with rfl | ht
    · exact h5
    · exact tmpsOnly_run ht h5 _
  intro e a w' hq
  cases e with
  | normal => exact key hq
  | ret => exact key hq
  | exit i => exact hq.elim
  | goto l => exact hq.elim
  | panic c => exact hq.elim
  | outgrown => exact hq.elim

theorem blt_iff {a b : Nat} : Nat.blt a b = true ↔ a < b := by rw [Nat.blt_eq]

/-- A function run in place. -/
theorem inPlace_ok {R : Type} {L : Lib} (hL : LibOk P L) : ∀ d, (∀ d' < d, InlsOk P (R := R) (inPlace L d')) → InlOk P (R := R) (inPlace L d)
  | 0, _ => by intro g as vs st K r μ S w h; rw [inPlace] at h; cases h
  | d + 1, hI => by
    intro g as vs st K r μ S w h hB hr
    rw [inPlace] at h
    obtain ⟨fn, hfn, h⟩ := ob_some h
    obtain ⟨c, hc, h⟩ := ob_some h
    obtain ⟨h1, h2, h3⟩ := hL.body g fn hfn
    refine ⟨⟨fn, c, h1, hc, h2⟩, calls_of_marks h1 hc ?_⟩
    have hdst := sall_iff.1 (h3 c hc)
    have hn : Now ⟨μ, S, w, st.bl, st.nb, { tmps := vs.toArray ++ Array.replicate (fn.ntmps - vs.toArray.size) undef, defers := [] }, initFr 0 as, tmpsOnly fn.results.toList = true⟩ (fun t => Nat.blt t fn.ntmps) μ S w ⟨initFr 0 as, st.bl, st.nb⟩ { tmps := vs.toArray ++ Array.replicate (fn.ntmps - vs.toArray.size) undef, defers := [] } :=
      ⟨StepB.refl hB, start_fr hr _, rfl, fun _ _ => rfl, ⟨[], rfl⟩, ⟨[], rfl⟩, Mk.refl⟩
    refine wp_mono (ev_ok hL (hI d (Nat.lt_succ_self d)) (fun h => h) (fun t ht => ?_) h hn hdst (fun p hp e he => hL.loop g p.1 fn c p.2 e he h1 hc hp) (fun p hp rd hrd => hL.rng g p.1 rd fn c p.2 hrd h1 hc hp)) ?_
    · have := blt_iff.1 ht
      simp only [Array.size_append, Array.size_replicate]
      omega
    · intro ex a' w' hq
      cases ex with
      | normal =>
        obtain ⟨μ', S', st', hn', hk⟩ := hq
        obtain ⟨v, hv, hk⟩ := ob_some hk
        obtain ⟨x, g1, g2⟩ := results_ok hL.ti hn'.step.1 hn'.fr hv
        obtain ⟨ε, hε⟩ := hn'.ext
        have hε : st'.bl = ε ++ st.bl := hε
        refine ⟨S', hn'.mks, x, g1, fun w'' hsh => ⟨ε, st'.nb, μ', S', st'.fr, resOne v, ?_, ?_, g2.shutD hsh⟩⟩
        · rw [← hε]; exact hk
        · rw [← hε]; exact hn'.step.shutD hsh
      | ret =>
        obtain ⟨μ', S', st', v, x, hs, ⟨ε, hε⟩, hd, hk, g1, g2⟩ := hq
        have hε : st'.bl = ε ++ st.bl := hε
        refine ⟨S', hd, x, g1, fun w'' hsh => ⟨ε, st'.nb, μ', S', st'.fr, v, ?_, ?_, g2.shutD hsh⟩⟩
        · rw [← hε]; exact hk
        · rw [← hε]; exact hs.shutD hsh
      | exit i => obtain ⟨_, _, _, _, hk⟩ := hq; cases hk
      | goto l => obtain ⟨_, _, _, _, hk⟩ := hq; exact absurd (show none = some _ from hk) (by simp)
      | panic c => exact hq.elim
      | outgrown => exact hq.elim

theorem ran_of {bl bl' : List (Nat × Blk)} {nb nb' : Nat} {μ' : Nat → Option At} {S1 : Nat → Prop} {w' : World} (hB : SimB μ S w bl nb) (hs : StepB μ S w bl nb μ' S1 w' bl' nb') {bs : List Nat} (hliv : ∀ b, Liv μ bl b ↔ b ∈ bs)
    {refs gone : List Nat} (hkr : Keys μ' bl' refs) (hkg : Keys μ' bl' gone) (hap : apartK refs gone = true) : Ran S w bs (fun b => S1 b ∨ Of μ' bl' gone b) w' (blocksOf μ' refs) := by
  obtain ⟨hnd, hdis⟩ := apartK_ok hap
  obtain ⟨hB', hevo, _⟩ := hs
  have hoff : ∀ {ks : List Nat} b, Of μ' bl' ks b → Liv μ' bl' b := fun b ⟨k, _, x, p, h1, h2, h3, h4, h5⟩ => ⟨k, x, p, h1, h2, h3, h4, h5⟩
  have back : ∀ b, Liv μ' bl' b → b ∈ bs ∨ w.heap.size ≤ b := fun b hb => by
    rcases hevo.liv b hb with h | h
    · exact .inl ((hliv b).1 h)
    · exact .inr h
  refine ⟨hevo.os, hevo.tape, hevo.output, hevo.size, fun b hb hn => hevo.same b hb (fun h => hn ((hliv b).1 h)), fun b hb => .inl (hevo.sub b hb), ?_, ?_, ?_, blocksOf_nodup hB' hkr hnd, ?_⟩
  · rintro b (h | h)
    · rcases hevo.new b h with h | h | h
      · exact .inl h
      · exact .inr (.inl h)
      · exact .inr (.inr ((hliv b).1 h))
    · rcases back b (hoff b h) with h | h
      · exact .inr (.inr h)
      · exact .inr (.inl h)
  · intro b hb
    exact back b (hoff b ((mem_blocksOf hkr).1 hb))
  · intro b hb
    have h1 := (mem_blocksOf hkr).1 hb
    obtain ⟨h2, h3⟩ := hB'.old b (hoff b h1)
    refine ⟨h2, ?_⟩
    rintro (h4 | ⟨k', hk', x', p', g1, g2, g3, g4, g5⟩)
    · exact h3 h4
    · obtain ⟨k, hk, x, p, i1, i2, i3, i4, i5⟩ := h1
      have := hB'.inj k k' x x' p p' i1 g1 i2 g2 i3 g3 i4 g4 (i5.trans g5.symm)
      subst this
      exact hdis k hk hk'
  · rintro b (h | h)
    · exact hB'.sb b h
    · exact (hB'.old b (hoff b h)).1

theorem Sh.mk_ext : ∀ {s : Sh} {x : s.ty.den} {st : St}, st.nb ≤ (Sh.mk s x st).2.nb ∧ (Sh.mk s x st).2.fr = st.fr ∧ ∃ ε, (Sh.mk s x st).2.bl = ε ++ st.bl ∧ ∀ p ∈ ε, st.nb ≤ p.1 := by
  intro s
  induction s with
  | dat t => intro x st; exact ⟨Nat.le_refl _, rfl, [], rfl, by simp⟩
  | own e => intro x st; exact ⟨Nat.le_succ _, rfl, [(st.nb, .row e x)], rfl, by simp⟩
  | box s ih =>
    intro x st
    obtain ⟨h1, h2, ε, h3, h4⟩ := ih (x := x) (st := st)
    refine ⟨Nat.le_succ_of_le h1, h2, ((Sh.mk s x st).2.nb, .box (Sh.mk s x st).1) :: ε, by rw [Sh.mk, h3]; rfl, fun p hp => ?_⟩
    rcases List.mem_cons.1 hp with rfl | hp
    · exact h1
    · exact h4 p hp
  | map k v => intro x st; exact ⟨Nat.le_succ _, rfl, [(st.nb, .map k v x)], rfl, by simp⟩
  | fn f c ih => intro x st; exact ih
  | nilfn => intro x st; exact ⟨Nat.le_refl _, rfl, [], rfl, by simp⟩
  | imm t => intro x st; exact ⟨Nat.le_refl _, rfl, [], rfl, by simp⟩
  | pr a b iha ihb =>
    intro x st
    obtain ⟨h1, h2, ε, h3, h4⟩ := iha (x := x.1) (st := st)
    obtain ⟨g1, g2, δ, g3, g4⟩ := ihb (x := x.2) (st := (Sh.mk a x.1 st).2)
    refine ⟨Nat.le_trans h1 g1, g2.trans h2, δ ++ ε, ?_, fun p hp => ?_⟩
    · show (Sh.mk b x.2 (Sh.mk a x.1 st).2).2.bl = _
      rw [g3, h3, List.append_assoc]
    · rcases List.mem_append.1 hp with hp | hp
      · exact Nat.le_trans h1 (g4 p hp)
      · exact h4 p hp
  | cons a b iha ihb =>
    intro x st
    obtain ⟨h1, h2, ε, h3, h4⟩ := iha (x := x.1) (st := st)
    obtain ⟨g1, g2, δ, g3, g4⟩ := ihb (x := x.2) (st := (Sh.mk a x.1 st).2)
    refine ⟨Nat.le_trans h1 g1, g2.trans h2, δ ++ ε, ?_, fun p hp => ?_⟩
    · show (Sh.mk b x.2 (Sh.mk a x.1 st).2).2.bl = _
      rw [g3, h3, List.append_assoc]
    · rcases List.mem_append.1 hp with hp | hp
      · exact Nat.le_trans h1 (g4 p hp)
      · exact h4 p hp
  | un => intro x st; exact ⟨Nat.le_refl _, rfl, [], rfl, by simp⟩
  | nix => intro x st; exact ⟨Nat.le_refl _, rfl, [], rfl, by simp⟩

/-- The rows and maps that are not given back. -/
def FixAt (bl : List (Nat × Blk)) : (l : Fs) → AV → l.ty.den → Prop
  | [], _, _ => True
  | (.own e, false) :: r, .cons u v, x => (∃ k, u = .own k ∧ lk bl k = some (.row e x.1)) ∧ FixAt bl r v x.2
  | (.map kt vt, false) :: r, .cons u v, x => (∃ k, u = .mp k ∧ lk bl k = some (.map kt vt x.1)) ∧ FixAt bl r v x.2
  | (.box (.dat t), false) :: r, .cons u v, x => (∃ k, u = .ptr k 0 ∧ lk bl k = some (.box (.dat t x.1))) ∧ FixAt bl r v x.2
  | _ :: r, .cons _ v, x => FixAt bl r v x.2
  | _ :: _, _, _ => False

theorem FixAt.of {bl : List (Nat × Blk)} : ∀ {l : Fs} {x : l.ty.den} {st : St}, (∀ k ∈ Fs.fixed l (Sh.mk l.sh x st).1, lk bl k = lk (Sh.mk l.sh x st).2.bl k) → FixAt bl l (Sh.mk l.sh x st).1 x
  | [], x, st, h => trivial
  | (s, fl) :: r, x, st, h => by
    have ih : (∀ k ∈ Fs.fixed r (Sh.mk (Fs.sh r) x.2 (Sh.mk s x.1 st).2).1, lk bl k = lk (Sh.mk (Fs.sh r) x.2 (Sh.mk s x.1 st).2).2.bl k) → FixAt bl r (Sh.mk (Fs.sh r) x.2 (Sh.mk s x.1 st).2).1 x.2 := fun h => FixAt.of (l := r) h
    obtain ⟨_, _, δ, hδ, hδ2⟩ := Sh.mk_ext (s := Fs.sh r) (x := x.2) (st := (Sh.mk s x.1 st).2)
    have h : ∀ k ∈ Fs.fixed ((s, fl) :: r) (.cons (Sh.mk s x.1 st).1 (Sh.mk (Fs.sh r) x.2 (Sh.mk s x.1 st).2).1), lk bl k = lk (Sh.mk (Fs.sh r) x.2 (Sh.mk s x.1 st).2).2.bl k := h
    cases fl with
    | true =>
      cases s with
      | box s' => cases s' <;> exact ih h
      | _ => exact ih h
    | false =>
      cases s with
      | own e =>
        refine ⟨⟨st.nb, rfl, ?_⟩, ih fun k hk => h k (List.mem_cons_of_mem _ hk)⟩
        rw [h st.nb (List.mem_cons_self ..), hδ, lk_ext hδ2 (Nat.lt_succ_self _)]
        show lk ((st.nb, Blk.row e x.1) :: st.bl) st.nb = _
        rw [lk_cons, if_pos rfl]
      | map kt vt =>
        refine ⟨⟨st.nb, rfl, ?_⟩, ih fun k hk => h k (List.mem_cons_of_mem _ hk)⟩
        rw [h st.nb (List.mem_cons_self ..), hδ, lk_ext hδ2 (Nat.lt_succ_self _)]
        show lk ((st.nb, Blk.map kt vt x.1) :: st.bl) st.nb = _
        rw [lk_cons, if_pos rfl]
      | box s' =>
        cases s' with
        | dat t =>
          refine ⟨⟨st.nb, rfl, ?_⟩, ih fun k hk => h k (List.mem_cons_of_mem _ hk)⟩
          have e1 : lk bl st.nb = lk (δ ++ ((st.nb, Blk.box (.dat t x.1)) :: st.bl)) st.nb := (h st.nb (List.mem_cons_self ..)).trans (congrArg (fun z => lk z st.nb) hδ)
          have hδ3 : ∀ p ∈ δ, st.nb + 1 ≤ p.1 := hδ2
          rw [e1, lk_ext hδ3 (Nat.lt_succ_self _), lk_cons, if_pos rfl]
        | _ => exact ih h
      | _ => exact ih h

theorem ShX.still : ∀ {s : Sh} {g : Bool} {x : s.ty.den} {cs : List Value} {bs : List Nat}, s.still = true → ShX S w g s x cs bs → bs = [] := by
  intro s
  induction s with
  | dat t => intro g x cs bs hs h; cases g with | false => exact h.2 | true => exact h.elim
  | own e => intro g x cs bs hs; cases hs
  | box s ih => intro g x cs bs hs; cases hs
  | map a b => intro g x cs bs hs; cases hs
  | fn f c ih => intro g x cs bs hs h; cases g with | false => obtain ⟨vs, _, h1, _⟩ := h; exact ih hs h1 | true => exact h.elim
  | nilfn => intro g x cs bs hs h; cases g with | false => exact h.2 | true => exact h.elim
  | imm t => intro g x cs bs hs h; cases g with | false => exact h.2 | true => exact h.elim
  | pr a b iha ihb =>
    intro g x cs bs hs h
    have hs : (a.still && b.still) = true := hs
    rw [Bool.and_eq_true] at hs
    cases g with
    | true => exact h.elim
    | false => obtain ⟨c, r, b1, b2, _, e, h1, h2⟩ := h; rw [e, iha hs.1 h1, ihb hs.2 h2]; rfl
  | cons a b iha ihb =>
    intro g x cs bs hs h
    have hs : (a.still && b.still) = true := hs
    rw [Bool.and_eq_true] at hs
    cases g with
    | false => exact h.elim
    | true =>
      obtain ⟨v, r, b1, b2, _, e, h1, h2⟩ := h
      have : b1 = [] := by
        cases hg : a.agg with
        | true => rw [hg] at h1; obtain ⟨cs, _, h3⟩ := h1; exact iha hs.1 h3
        | false => rw [hg] at h1; exact iha hs.1 h1
      rw [e, this, ihb hs.2 h2]; rfl
  | un => intro g x cs bs hs h; cases g with | false => exact h.2 | true => exact h.2
  | nix => intro g x cs bs hs; cases hs

/-- The same values where nothing is given back. -/
def Agree : Fs → List Value → List Value → Prop
  | [], _, _ => True
  | (_, true) :: r, _ :: vr, _ :: vr' => Agree r vr vr'
  | (_, false) :: r, v :: vr, v' :: vr' => v = v' ∧ Agree r vr vr'
  | _, _, _ => True

theorem Agree.refl : ∀ (l : Fs) (vs : List Value), Agree l vs vs
  | [], _ => trivial
  | (_, true) :: r, [] => trivial
  | (_, false) :: r, [] => trivial
  | (_, true) :: r, v :: vr => Agree.refl r vr
  | (_, false) :: r, v :: vr => ⟨rfl, Agree.refl r vr⟩

theorem Fs.merge_ok {μ' : Nat → Option At} {S1 S' : Nat → Prop} {w' : World} {bl' : List (Nat × Blk)} {nb' : Nat} (hB' : SimB μ' S1 w' bl' nb') (hS : ∀ b, S b → S' b) (hS1 : ∀ b, S1 b → S' b) (hsame : ∀ b, S b → w'.heap[b]? = w.heap[b]?) :
    ∀ {l : Fs} {x z : l.ty.den} {vs vs' : List Value} {bs bs' : List Nat} {args : AV}, Fs.sane l = true → ShX S w true l.sh x vs bs → RX μ' S1 w' true args vs → FixAt bl' l args x → ShX S' w' true l.sh z vs' bs' → Agree l vs vs' →
      ShX S' w' true l.sh (l.merge x (l.proj z)) vs' bs'
  | [], x, z, vs, vs', bs, bs', args, hs, h0, hr, hf, h1, ha => h1
  | (s, true) :: r, x, z, vs, vs', bs, bs', args, hs, h0, hr, hf, h1, ha => by
    obtain ⟨v, vr, b1, b2, e1, e2, g1, g2⟩ := h0
    obtain ⟨v', vr', b1', b2', e1', e2', g1', g2'⟩ := h1
    subst e1 e1'
    cases args with
    | cons u c =>
      obtain ⟨d, dr, e3, hd, hdr⟩ := hr
      cases e3
      refine ⟨v', vr', b1', b2', rfl, e2', g1', ?_⟩
      refine Fs.merge_ok (l := r) hB' hS hS1 hsame hs g2 hdr ?_ g2' ha
      cases s with
      | box s' => cases s' <;> exact hf
      | _ => exact hf
    | _ => first | exact hr.elim | (cases hr)
  | (s, false) :: r, x, z, vs, vs', bs, bs', args, hs, h0, hr, hf, h1, ha => by
    obtain ⟨v, vr, b1, b2, e1, e2, g1, g2⟩ := h0
    obtain ⟨v', vr', b1', b2', e1', e2', g1', g2'⟩ := h1
    subst e1 e1'
    have hs0 : s.stay = true ∧ Fs.sane r = true := by
      have : cond s.stay (Fs.sane r) false = true := hs
      cases h1 : s.stay <;> rw [h1] at this
      · cases this
      · exact ⟨rfl, this⟩
    obtain ⟨hv, ha⟩ := ha
    subst hv
    cases args with
    | cons u c =>
      obtain ⟨d, dr, e3, hd, hdr⟩ := hr
      cases e3
      have rest : FixAt bl' r c x.2 → ShX S' w' true (Fs.sh r) (Fs.merge r x.2 (Fs.proj r z.2)) vr' b2' := fun hf => Fs.merge_ok (l := r) hB' hS hS1 hsame hs0.2 g2 hdr hf g2' ha
      -- nothing owned
      have still : s.still = true → FixAt bl' r c x.2 → ShX S' w' true (Fs.sh ((s, false) :: r)) (Fs.merge ((s, false) :: r) x (Fs.proj ((s, false) :: r) z)) (v :: vr') bs' := by
        intro hst hf
        have g1 : ShV S w s x.1 v b1 := g1
        have g1' : ShV S' w' s z.1 v b1' := g1'
        have e4 : b1 = [] := by
          unfold ShV at g1
          cases hg : s.agg with
          | true => rw [hg] at g1; obtain ⟨cs, _, h⟩ := g1; exact ShX.still hst h
          | false => rw [hg] at g1; exact ShX.still hst g1
        have e5 : b1' = [] := by
          unfold ShV at g1'
          cases hg : s.agg with
          | true => rw [hg] at g1'; obtain ⟨cs, _, h⟩ := g1'; exact ShX.still hst h
          | false => rw [hg] at g1'; exact ShX.still hst g1'
        subst e4 e5
        exact ⟨v, vr', [], b2', rfl, e2', g1.move hS hsame (by simp), rest hf⟩
      cases s with
      | own e =>
        obtain ⟨⟨k, rfl, hk⟩, hf⟩ := hf
        obtain ⟨p', e4, hrow, e5⟩ := g1'
        simp only [List.cons.injEq, and_true] at e4
        obtain ⟨p, hp, e6⟩ := hd
        simp only [List.cons.injEq, and_true] at e6
        have hrow0 : RowAt S1 w' p e x.1 := hB'.row hk hp
        have hrow1 : RowAt S' w' p' e x.1 := RowAt.congr (e4.symm.trans e6) (hrow0.move hS1 (fun _ _ => rfl) (fun _ => rfl))
        exact ⟨v, vr', b1', b2', rfl, e2', ⟨p', by rw [e4], hrow1, e5⟩, rest hf⟩
      | map kt vt =>
        obtain ⟨⟨k, rfl, hk⟩, hf⟩ := hf
        obtain ⟨b, e4, hm, e5⟩ := g1'
        simp only [List.cons.injEq, and_true] at e4
        obtain ⟨p, hp, e6⟩ := hd
        simp only [List.cons.injEq, and_true] at e6
        obtain ⟨q, hq, hnl, hm0⟩ := hB'.blk k _ hk
        rw [hp] at hq; cases hq
        have hb : p.b = b := by
          have := e6.symm.trans e4
          simpa using this
        have hm1 : MapAt S' w' b kt vt x.1 := by
          rw [← hb]
          exact MapAt.move hS1 (fun _ _ => rfl) rfl hm0
        exact ⟨v, vr', b1', b2', rfl, e2', ⟨b, by rw [e4], hm1, e5⟩, rest hf⟩
      | dat t => exact still hs0.1 hf
      | box s' =>
        cases s' with
        | dat t =>
          obtain ⟨⟨k, rfl, hk⟩, hf⟩ := hf
          obtain ⟨b, cs', ty, bs', e4, hheap, ⟨hrep, hbs'⟩, e5⟩ := g1'
          obtain ⟨p, hp, e6⟩ := hd
          obtain ⟨q, hq, hnl, cs2, ty2, hheap2, hrep2⟩ := hB'.blk k _ hk
          rw [hp] at hq; cases hq
          simp only [List.cons.injEq, and_true] at e4 e6
          rw [e6] at e4
          simp only [Value.pointer.injEq, Option.some.injEq, Addr.mk.injEq, and_true] at e4
          refine ⟨v, vr', b1', b2', rfl, e2', ⟨b, cs2, ty2, bs', by rw [e6, e4], by rw [← e4]; exact hheap2, ⟨Rep.move hS1 (fun _ _ => rfl) hrep2, hbs'⟩, e5⟩, rest hf⟩
        | _ => cases hs0.1
      | fn f c => exact still hs0.1 hf
      | nilfn => exact still hs0.1 hf
      | imm t => exact still hs0.1 hf
      | pr a b => exact still hs0.1 hf
      | cons a b => exact still hs0.1 hf
      | un => exact still hs0.1 hf
      | nix => cases hs0.1
    | _ => first | exact hr.elim | (cases hr)

theorem keys_not {ε : List (Nat × Blk)} {k : Nat} (h : has (keysOf ε) k = false) : ∀ p ∈ ε, p.1 ≠ k := by
  intro p hp e
  have : k ∈ keysOf ε := by
    unfold keysOf
    induction ε with
    | nil => simp at hp
    | cons q r ih =>
      rw [smap]
      rcases List.mem_cons.1 hp with rfl | hp
      · rw [e]; simp
      · refine List.mem_cons_of_mem _ (ih ?_ hp)
        cases hb : has (keysOf r) k with
        | false => rfl
        | true =>
          have := has_iff.1 hb
          have : k ∈ keysOf (q :: r) := by unfold keysOf at this ⊢; rw [smap]; exact List.mem_cons_of_mem _ this
          rw [has_iff.2 this] at h; cases h
  rw [has_iff.2 this] at h; cases h

theorem lk_skip {α : Type} {ε l : List (Nat × α)} {k : Nat} (h : ∀ p ∈ ε, p.1 ≠ k) : lk (ε ++ l) k = lk l k := by
  induction ε with
  | nil => rfl
  | cons p r ih => rw [List.cons_append, lk_cons, if_neg (h p (by simp)), ih fun q hq => h q (by simp [hq])]

/-- May a function's result have this shape? -/
def resOk : Sh → Bool
  | .cons _ b => b.list
  | _ => true

theorem none_sim (hS : ∀ b, S b → b < w.heap.size) (hG : Gl S w) : SimB (fun _ => none) S w [] 0 :=
  ⟨fun k p h => (by cases h), fun k x h => (by cases h), fun b ⟨k, x, p, h, _⟩ => (by cases h), fun k k' x x' p p' h => (by cases h), hS, hG⟩

theorem none_liv (b : Nat) : ¬ Liv (fun _ => none) [] b := fun ⟨k, x, p, h, _⟩ => by cases h

/-- A function computes what its code does, by whatever proof. -/
theorem entOk_wp {L : Lib} (hL : LibOk P L) {f : Nat} {fn : Func} {c : Code} (hf : P.funcs[f]? = some fn) (hb : fn.body = some c) (hname : (fn.name == "runtime.NumGoroutine") = false)
    {e : Ent} (htk : e.take = false) (hres : resOk e.res = true) (heq : ∀ x y, e.fn x = some y → ∀ {B : Base} {μ : Nat → Option At} {S : Nat → Prop} {w : World} {a : Act}, (tmpsOnly fn.results.toList = true → B.T) → (∀ t, Nat.blt t fn.ntmps = true → t < B.a.tmps.size) →
      Now B (fun t => Nat.blt t fn.ntmps) μ S w ⟨initFr 0 (e.ins.args x ⟨[], [], 0⟩).1, (e.ins.args x ⟨[], [], 0⟩).2.bl, (e.ins.args x ⟨[], [], 0⟩).2.nb⟩ a →
      c.wp P (Post P B (fun t => Nat.blt t fn.ntmps) fn (fun ex st => match ex with | .normal => ob (resAV L st fn.results.toList) fun v => finish e.ins e.res (e.ins.args x ⟨[], [], 0⟩).1 (e.ins.args x ⟨[], [], 0⟩).2.bl (resOne v) st | _ => none)
        (fun v st => finish e.ins e.res (e.ins.args x ⟨[], [], 0⟩).1 (e.ins.args x ⟨[], [], 0⟩).2.bl v st) (e.out x y)) a w) : EntOk P f e := by
  refine ⟨⟨fn, c, hf, hb, hname⟩, ?_⟩
  intro S w vs x bs y hown hx hy
  have hev := @heq x y hy
  obtain ⟨μ1, hm, hr, _⟩ := Sh.mk_ok hx (none_sim hown.sb hown.gl (w := w)) hown.nd (fun b hb => ⟨(hown.old b hb).1, (hown.old b hb).2, none_liv b⟩) (st := ⟨[], [], 0⟩)
  have hr0 : RX μ1 S w true (Sh.mk e.ins.sh x ⟨[], [], 0⟩).1 vs := hr
  have hB := hm.sim
  have hliv : ∀ b, Liv μ1 (Sh.mk e.ins.sh x ⟨[], [], 0⟩).2.bl b ↔ b ∈ bs := fun b => by
    rw [hm.liv]
    exact ⟨fun h => h.resolve_left (none_liv b), .inr⟩
  refine calls_of_marks hf hb ?_
  have hn : Now ⟨μ1, S, w, (Sh.mk e.ins.sh x ⟨[], [], 0⟩).2.bl, (Sh.mk e.ins.sh x ⟨[], [], 0⟩).2.nb, { tmps := vs.toArray ++ Array.replicate (fn.ntmps - vs.toArray.size) undef, defers := [] }, initFr 0 (Sh.mk e.ins.sh x ⟨[], [], 0⟩).1, tmpsOnly fn.results.toList = true⟩ (fun t => Nat.blt t fn.ntmps) μ1 S w
      ⟨initFr 0 (Sh.mk e.ins.sh x ⟨[], [], 0⟩).1, (Sh.mk e.ins.sh x ⟨[], [], 0⟩).2.bl, (Sh.mk e.ins.sh x ⟨[], [], 0⟩).2.nb⟩ { tmps := vs.toArray ++ Array.replicate (fn.ntmps - vs.toArray.size) undef, defers := [] } :=
    ⟨StepB.refl hB, start_fr hr0 _, rfl, fun _ _ => rfl, ⟨[], rfl⟩, ⟨[], rfl⟩, Mk.refl⟩
  -- the end
  have fin : ∀ {μ' S1 w' st' v u}, StepB μ1 S w (Sh.mk e.ins.sh x ⟨[], [], 0⟩).2.bl (Sh.mk e.ins.sh x ⟨[], [], 0⟩).2.nb μ' S1 w' st'.bl st'.nb → (∃ ε, st'.bl = ε ++ (Sh.mk e.ins.sh x ⟨[], [], 0⟩).2.bl) →
      finish e.ins e.res (Sh.mk e.ins.sh x ⟨[], [], 0⟩).1 (Sh.mk e.ins.sh x ⟨[], [], 0⟩).2.bl v st' = some (e.out x y) → RV μ' S1 w' v u →
      ∃ S' b1 b2, Ran S w bs S' w' (b1 ++ b2) ∧ ShR S' w' e.res (e.out x y).1 u b1 ∧ ShX S' w' true e.ins.sh (e.ins.merge x (e.out x y).2) vs b2 := by
    intro μ' S1 w' st' v u hs hext hfin hv
    unfold finish at hfin
    obtain ⟨g, hg, hfin⟩ := ob_some hfin
    obtain ⟨h, hh, hfin⟩ := ob_some hfin
    obtain ⟨hc, hfin⟩ := condT hfin
    obtain ⟨hap, hsane, hfix⟩ := and3_true hc
    have hfin : (g.x, e.ins.proj h.x) = e.out x y := by simpa using hfin
    rw [← hfin]
    have hra : RX μ' S1 w' true (Sh.mk e.ins.sh x ⟨[], [], 0⟩).1 vs := RX.step hB hs hr0
    obtain ⟨i1, i2, i3⟩ := Sh.get_r (S' := fun b => S1 b ∨ Of μ' st'.bl (sapp g.gone h.gone) b) hs.1 (fun a b e => by rw [e] at hres; exact hres) hg hv (fun _ h => .inl h) (fun b hb => .inr (Of.imp (fun k hk => by rw [sapp_eq]; simp [hk]) hb))
    obtain ⟨j1, j2, j3, _⟩ := Sh.get_ok (S' := fun b => S1 b ∨ Of μ' st'.bl (sapp g.gone h.gone) b) hs.1 hh hra (fun _ => Fs.sh_list _) (fun _ h => .inl h) (fun b hb => .inr (Of.imp (fun k hk => by rw [sapp_eq]; simp [hk]) hb))
    have hran := ran_of hB hs hliv (refs := sapp g.refs h.refs) (gone := sapp g.gone h.gone) (fun k hk => by
        rw [sapp_eq, List.mem_append] at hk
        rcases hk with hk | hk
        · exact i2 k hk
        · exact j2 k hk) (fun k hk => by
        rw [sapp_eq, List.mem_append] at hk
        rcases hk with hk | hk
        · exact i3 k hk
        · exact j3 k hk) hap
    rw [sapp_eq g.refs, blocksOf_append] at hran
    refine ⟨_, _, _, hran, i1, ?_⟩
    obtain ⟨ε, hε⟩ := hext
    have hfixat : FixAt st'.bl e.ins (Sh.mk e.ins.sh x ⟨[], [], 0⟩).1 x := by
      refine FixAt.of (l := e.ins) (x := x) (st := ⟨[], [], 0⟩) fun k hk => ?_
      have := sall_iff.1 hfix k hk
      rw [hε, stake_app] at this
      have hnk : has (keysOf ε) k = false := by
        cases hb : has (keysOf ε) k with
        | false => rfl
        | true => rw [hb] at this; cases this
      rw [hε]
      exact lk_skip (keys_not hnk)
    exact Fs.merge_ok (l := e.ins) hs.1 (fun b hb => .inl (hs.2.1.sub b hb)) (fun b hb => .inl hb) (hs.still hB) hsane hx hra hfixat j1 (Agree.refl _ _)
  refine wp_mono (hev (fun h => h) (fun t ht => ?_) hn) ?_
  · have := blt_iff.1 ht
    simp only [Array.size_append, Array.size_replicate]
    omega
  · intro ex a' w' hq
    cases ex with
    | normal =>
      obtain ⟨μ', S', st', hn', hk⟩ := hq
      obtain ⟨v, hv, hk⟩ := ob_some hk
      obtain ⟨u, g1, g2⟩ := results_ok hL.ti hn'.step.1 hn'.fr hv
      exact ⟨S', hn'.mks, u, g1, fun w'' hsh => by show cond e.take _ _; rw [htk]; exact fin (hn'.step.shutD hsh) hn'.ext hk (g2.shutD hsh)⟩
    | ret =>
      obtain ⟨μ', S', st', v, u, hs, hext, hd, hk, g1, g2⟩ := hq
      exact ⟨S', hd, u, g1, fun w'' hsh => by show cond e.take _ _; rw [htk]; exact fin (hs.shutD hsh) hext hk (g2.shutD hsh)⟩
    | exit i => obtain ⟨_, _, _, _, hk⟩ := hq; cases hk
    | goto l => obtain ⟨_, _, _, _, hk⟩ := hq; exact absurd (show none = some _ from hk) (by simp)
    | panic c => exact hq.elim
    | outgrown => exact hq.elim

/-- A function computes what its code is read as. -/
theorem entOk_of {L : Lib} (hL : LibOk P L) {d f : Nat} (hI : ∀ {R : Type}, InlsOk P (R := R) (inPlace L d)) {fn : Func} {c : Code} (hf : P.funcs[f]? = some fn) (hb : fn.body = some c) (hname : (fn.name == "runtime.NumGoroutine") = false)
    (hdst : dstIn (fun t => Nat.blt t fn.ntmps) c = true) {e : Ent} (htk : e.take = false) (hres : resOk e.res = true) (heq : ∀ x y, e.fn x = some y → evFn L d f fn.results.toList c e.ins e.res x = some (e.out x y)) : EntOk P f e := by
  refine entOk_wp hL hf hb hname htk hres ?_
  intro x y hy B μ S w a hT hD hn
  have hdst' := sall_iff.1 hdst
  exact ev_ok hL hI hT hD (heq x y hy) hn hdst' (fun p hp e he => hL.loop f p.1 fn c p.2 e he hf hb hp) (fun p hp rd hrd => hL.rng f p.1 rd fn c p.2 hrd hf hb hp)

/-- A function that returns nil or a slice that is not empty computes what its code is read as. -/
theorem optOk_of {L : Lib} (hL : LibOk P L) {d f : Nat} (hI : ∀ {R : Type}, InlsOk P (R := R) (inPlace L d)) {fn : Func} {c : Code} (hf : P.funcs[f]? = some fn) (hb : fn.body = some c) (hname : (fn.name == "runtime.NumGoroutine") = false)
    (hdst : dstIn (fun t => Nat.blt t fn.ntmps) c = true) {e : Opt} (heq : ∀ x y, e.fn x = some y → evFnO L d f fn.results.toList c e.ins e.e x = some y) : OptOk P f e := by
  refine ⟨⟨fn, c, hf, hb, hname⟩, ?_⟩
  intro S w vs x bs y hown hx hy
  have hev := heq x y hy
  unfold evFnO at hev
  obtain ⟨μ1, hm, hr, _⟩ := Sh.mk_ok hx (none_sim hown.sb hown.gl (w := w)) hown.nd (fun b hb => ⟨(hown.old b hb).1, (hown.old b hb).2, none_liv b⟩) (st := ⟨[], [], 0⟩)
  have hr0 : RX μ1 S w true (Sh.mk e.ins.sh x ⟨[], [], 0⟩).1 vs := hr
  have hB := hm.sim
  have hliv : ∀ b, Liv μ1 (Sh.mk e.ins.sh x ⟨[], [], 0⟩).2.bl b ↔ b ∈ bs := fun b => by
    rw [hm.liv]
    exact ⟨fun h => h.resolve_left (none_liv b), .inr⟩
  refine calls_of_marks hf hb ?_
  have hn : Now ⟨μ1, S, w, (Sh.mk e.ins.sh x ⟨[], [], 0⟩).2.bl, (Sh.mk e.ins.sh x ⟨[], [], 0⟩).2.nb, { tmps := vs.toArray ++ Array.replicate (fn.ntmps - vs.toArray.size) undef, defers := [] }, initFr 0 (Sh.mk e.ins.sh x ⟨[], [], 0⟩).1, tmpsOnly fn.results.toList = true⟩ (fun t => Nat.blt t fn.ntmps) μ1 S w
      ⟨initFr 0 (Sh.mk e.ins.sh x ⟨[], [], 0⟩).1, (Sh.mk e.ins.sh x ⟨[], [], 0⟩).2.bl, (Sh.mk e.ins.sh x ⟨[], [], 0⟩).2.nb⟩ { tmps := vs.toArray ++ Array.replicate (fn.ntmps - vs.toArray.size) undef, defers := [] } :=
    ⟨StepB.refl hB, start_fr hr0 _, rfl, fun _ _ => rfl, ⟨[], rfl⟩, ⟨[], rfl⟩, Mk.refl⟩
  -- the end
  have fin : ∀ {μ' S1 w' st' v u}, StepB μ1 S w (Sh.mk e.ins.sh x ⟨[], [], 0⟩).2.bl (Sh.mk e.ins.sh x ⟨[], [], 0⟩).2.nb μ' S1 w' st'.bl st'.nb →
      finishO e.e v st' = some y → RV μ' S1 w' v u →
      ∃ S', Ran S w bs S' w' [] ∧ OptV S' w' e.e u y := by
    intro μ' S1 w' st' v u hs hfin hv
    unfold finishO at hfin
    split at hfin
    · cases hfin
      have hran := ran_of hB hs hliv (refs := []) (gone := []) (fun k hk => by cases hk) (fun k hk => by cases hk) rfl
      refine ⟨_, hran, ?_⟩
      have e1 : [u] = [Value.slice none 0 0] := hv.to (by simp) (by simp)
      exact (by simpa using e1 : u = Value.slice none 0 0)
    · rename_i v _
      obtain ⟨g, hg, hfin⟩ := ob_some hfin
      obtain ⟨_, hfin⟩ := condT hfin
      cases hfin
      obtain ⟨i1, i2, i3⟩ := Sh.get_r (s := .dat (.sl e.e)) (S' := fun b => S1 b ∨ Of μ' st'.bl g.gone b) hs.1 (fun a b e => by cases e) hg hv (fun _ h => .inl h) (fun b hb => .inr hb)
      have hrefs : g.refs = [] := by
        rw [Sh.get] at hg
        obtain ⟨p, _, hg⟩ := ob_some hg
        cases hg; rfl
      have hran := ran_of hB hs hliv (refs := g.refs) (gone := g.gone) i2 i3 (by rw [hrefs]; rfl)
      rw [hrefs] at hran
      exact ⟨_, hran, i1.1⟩
  refine wp_mono (ev_ok hL hI (B := ⟨μ1, S, w, (Sh.mk e.ins.sh x ⟨[], [], 0⟩).2.bl, (Sh.mk e.ins.sh x ⟨[], [], 0⟩).2.nb, { tmps := vs.toArray ++ Array.replicate (fn.ntmps - vs.toArray.size) undef, defers := [] }, initFr 0 (Sh.mk e.ins.sh x ⟨[], [], 0⟩).1, tmpsOnly fn.results.toList = true⟩) (fun h => h) (fun t ht => ?_) hev hn (sall_iff.1 hdst) (fun p hp e he => hL.loop f p.1 fn c p.2 e he hf hb hp) (fun p hp rd hrd => hL.rng f p.1 rd fn c p.2 hrd hf hb hp)) ?_
  · have := blt_iff.1 ht
    simp only [Array.size_append, Array.size_replicate]
    omega
  · intro ex a' w' hq
    cases ex with
    | normal =>
      obtain ⟨μ', S', st', hn', hk⟩ := hq
      obtain ⟨v, hv, hk⟩ := ob_some hk
      obtain ⟨u, g1, g2⟩ := results_ok hL.ti hn'.step.1 hn'.fr hv
      exact ⟨S', hn'.mks, u, g1, fun w'' hsh => fin (hn'.step.shutD hsh) hk (g2.shutD hsh)⟩
    | ret =>
      obtain ⟨μ', S', st', v, u, hs, hext, hd, hk, g1, g2⟩ := hq
      exact ⟨S', hd, u, g1, fun w'' hsh => fin (hs.shutD hsh) hk (g2.shutD hsh)⟩
    | exit i => obtain ⟨_, _, _, _, hk⟩ := hq; cases hk
    | goto l => obtain ⟨_, _, _, _, hk⟩ := hq; exact absurd (show none = some _ from hk) (by simp)
    | panic c => exact hq.elim
    | outgrown => exact hq.elim

end
end Go.Pv

/- Loops by their own code. -/
set_option linter.unusedVariables false
set_option linter.unusedSimpArgs false
namespace Go.Pv

section
variable {P : Program} {μ : Nat → Option At} {S : Nat → Prop} {w : World}

theorem rounds_mono {c : Code} {Q Q' : Exit → Act → World → Prop} (hq : ∀ e a w, Q e a w → Q' e a w) : ∀ {n : Nat} {a : Act} {w : World}, Code.rounds P c Q n a w → Code.rounds P c Q' n a w
  | 0, a, w, h => h
  | n + 1, a, w, h => by
    rw [rounds_succ] at h ⊢
    refine wp_mono h ?_
    intro e a' w' hh
    cases e with
    | normal => exact rounds_mono hq hh
    | exit i => exact hq _ _ _ hh
    | ret => exact hq _ _ _ hh
    | goto l => exact hq _ _ _ hh
    | panic c => exact hq _ _ _ hh
    | outgrown => exact hq _ _ _ hh

theorem merge_merge : ∀ {l : Fs} {x : l.ty.den} {m m' : l.back.den}, l.merge (l.merge x m') m = l.merge x m
  | [], x, m, m' => rfl
  | (s, true) :: r, x, m, m' => by
    show ((m.1, Fs.merge r (Fs.merge r x.2 m'.2) m.2) : s.ty.den × (Fs.ty r).den) = (m.1, Fs.merge r x.2 m.2)
    rw [merge_merge (l := r)]
  | (s, false) :: r, x, m, m' => by
    show ((x.1, Fs.merge r (Fs.merge r x.2 m') m) : s.ty.den × (Fs.ty r).den) = (x.1, Fs.merge r x.2 m)
    rw [merge_merge (l := r)]

/-- The slots hold these values. -/
theorem toSlots_ok {a : Act} : ∀ {ts : List Nat} {v : AV}, RX μ S w true v (slotVals a ts) → SimF μ S w (toSlots ts v []) a
  | [], v, h => ⟨fun t u ht => (by cases v <;> cases ht)⟩
  | t :: ts, v, h => by
    cases v with
    | cons u v =>
      obtain ⟨d, r, e, h1, h2⟩ := h
      simp only [slotVals, List.map_cons, List.cons.injEq] at e
      obtain ⟨e1, e2⟩ := e
      have e2 : r = slotVals a ts := e2.symm
      subst e2 e1
      have ih := toSlots_ok h2
      refine ⟨fun t' u' ht => ?_⟩
      rw [toSlots, lk_cons] at ht
      by_cases htt : t = t'
      · rw [if_pos htt] at ht; cases ht; subst htt; exact RV.of h1
      · rw [if_neg htt] at ht; exact ih.slot t' u' ht
    | _ => exact ⟨fun t' u' ht => (by cases ht)⟩

theorem slotsOf_skip {t : Nat} {u : AV} {fr : List (Nat × AV)} : ∀ {ts : List Nat}, t ∉ ts → slotsOf ((t, u) :: fr) ts = slotsOf fr ts
  | [], _ => rfl
  | t' :: ts, h => by
    simp only [List.mem_cons, not_or] at h
    rw [slotsOf, slotsOf, lk_cons, if_neg h.1, slotsOf_skip h.2]

theorem slotsOf_toSlots {a : Act} {fr : List (Nat × AV)} : ∀ {ts : List Nat} {v v' : AV}, ts.Nodup → RX μ S w true v (slotVals a ts) → slotsOf (toSlots ts v fr) ts = some v' → v' = v
  | [], v, v', _, h, hs => by
    rw [slotsOf] at hs; cases hs
    cases v with
    | un => rfl
    | cons a b => obtain ⟨d, r, e, _⟩ := h; cases e
    | _ => exact h.elim
  | t :: ts, v, v', hn, h, hs => by
    cases v with
    | cons u v =>
      obtain ⟨d, r, e, h1, h2⟩ := h
      simp only [slotVals, List.map_cons, List.cons.injEq] at e
      have e2 : r = slotVals a ts := e.2.symm
      subst e2
      obtain ⟨hn1, hn2⟩ := List.nodup_cons.1 hn
      rw [toSlots, slotsOf, lk_cons, if_pos rfl] at hs
      obtain ⟨x, hx, hs⟩ := ob_some hs
      obtain ⟨y, hy, hs⟩ := ob_some hs
      cases hs
      have hx := (one_some hx).1
      simp only [Option.some.injEq] at hx
      rw [slotsOf_skip hn1] at hy
      rw [← hx, slotsOf_toSlots hn2 h2 hy]
    | un => simp [RX, slotVals] at h
    | _ => exact h.elim

theorem agree_slots {a a' : Act} : ∀ {l : Fs} {ts : List Nat}, (∀ t ∈ ts, t ∉ Lent.writesOf l ts → a'.tmps.getD t undef = a.tmps.getD t undef) → ts.Nodup → Agree l (slotVals a ts) (slotVals a' ts)
  | [], ts, _, _ => trivial
  | (s, fl) :: r, [], _, _ => by cases fl <;> trivial
  | (s, fl) :: r, t :: ts, hk, hn => by
    obtain ⟨hn1, hn2⟩ := List.nodup_cons.1 hn
    have hwr : ∀ u ∈ ts, u ∉ Lent.writesOf r ts → u ∉ Lent.writesOf ((s, fl) :: r) (t :: ts) := by
      intro u hu hnu hin
      have : u = t ∨ u ∈ Lent.writesOf r ts := by
        cases fl with
        | false => cases s <;> exact .inr hin
        | true =>
          cases s with
          | dat _ => exact List.mem_cons.1 hin
          | own _ => exact List.mem_cons.1 hin
          | _ => exact .inr hin
      rcases this with rfl | h
      · exact hn1 hu
      · exact hnu h
    have ih := agree_slots (l := r) (ts := ts) (fun u hu hnu => hk u (by simp [hu]) (hwr u hu hnu)) hn2
    cases fl with
    | true => exact ih
    | false =>
      refine ⟨(hk t (by simp) fun hin => ?_).symm, ih⟩
      have : t ∈ Lent.writesOf r ts := by cases s <;> exact hin
      exact hn1 (keep_slots.writes_sub this)

def aliFit (c : Code) (slots : List Nat) (ali : List (Nat × Nat × List Nat)) : Bool :=
  sall (fun q => and3 (cond (has slots q.1) false true) (cond (has (dstsOf c) q.1) false true) (sall (fun j => cond (has (dstsOf c) j) false true) q.2.2)) ali
theorem not_has {l : List Nat} {k : Nat} (h : cond (has l k) false true = true) : k ∉ l := fun hin => by rw [has_iff.2 hin] at h; cases h
theorem slotsOf_ali {fr : List (Nat × AV)} {slots : List Nat} : ∀ {ali : List (Nat × Nat × List Nat)}, (∀ q ∈ ali, q.1 ∉ slots) → slotsOf (withAli fr ali) slots = slotsOf fr slots
  | [], _ => rfl
  | q :: r, h => by
    rw [withAli]
    split
    · rw [slotsOf_skip (h q (by simp)), slotsOf_ali fun q' hq' => h q' (by simp [hq'])]
    · exact slotsOf_ali fun q' hq' => h q' (by simp [hq'])
theorem AliAt.keep {a a' : Act} {c : Code} {slots : List Nat} {ali : List (Nat × Nat × List Nat)} (hfit : aliFit c slots ali = true) (h : AliAt a ali) (hk : ∀ t, t ∉ dstsOf c → a'.tmps.getD t undef = a.tmps.getD t undef) : AliAt a' ali := by
  intro q hq
  obtain ⟨_, h2, h3⟩ := and3_true (sall_iff.1 hfit q hq)
  rw [hk _ (not_has h2), h q hq]
  unfold aliV
  cases Nat.beq q.2.1 0 with
  | true =>
    show (match q.2.2 with | j :: _ => a.tmps.getD j undef | [] => a.tmps.getD q.1 undef) = (match q.2.2 with | j :: _ => a'.tmps.getD j undef | [] => a'.tmps.getD q.1 undef)
    split
    · rename_i j js hj
      rw [hj] at h3
      exact (hk j (not_has (sall_iff.1 h3 j (by simp)))).symm
    · exact (hk _ (not_has h2)).symm
  | false =>
    show Value.func _ _ _ = Value.func _ _ _
    congr 2
    exact (List.map_congr_left fun j hj => hk j (not_has (sall_iff.1 h3 j hj))).symm

/-- A loop computes what its code is read as: the fuel's number of rounds at most. -/
theorem lentOk_of {L : Lib} (hL : LibOk P L) {d f : Nat} (hI : ∀ {R : Type}, InlsOk P (R := R) (inPlace L d)) {fn : Func} {c : Code} {n : Nat}
    (hloop : ∀ p ∈ loopsIn c n, ∀ e ∈ L.loop f p.1, LentOk P fn p.2 e) (hrng : ∀ p ∈ rngsIn c n, ∀ rd, L.rng f p.1 = some rd → RngOk P p.2 rd) {slots : List Nat} {ali : List (Nat × Nat × List Nat)} {ins : Fs} {writes exits : List Nat} {rets : Bool} {rs : Sh} (hfit : aliFit c slots ali = true)
    (hdst : sall (fun t => has (sapp writes (Lent.writesOf ins slots)) t) (dstsOf c) = true) (hsl : once slots = true) (hsw : sall (fun t => cond (has writes t) false true) slots = true) (hres : resOk rs = true)
    (ln : Nat → ins.ty.den → Option (Out ins.back.den rs.ty.den exits rets)) (h0 : ∀ x, ln 0 x = none)
    (hs : ∀ k x y, ln (k + 1) x = some y → evLoop L d f fn.results.toList c n slots ali ins exits rets rs (ln k) x = some y) (k : Nat) :
    LentOk P fn c ⟨slots, ins, writes, exits, rets, rs, ln k, ali, none⟩ := by
  have hdst' : ∀ t ∈ dstsOf c, (⟨slots, ins, writes, exits, rets, rs, ln k, ali, none⟩ : Lent).D t = true := fun t ht => sall_iff.1 hdst t ht
  have hnd : slots.Nodup := once_nodup hsl
  have hsw' : ∀ t ∈ slots, t ∉ writes := fun t ht hin => by
    have := sall_iff.1 hsw t ht
    rw [has_iff.2 hin] at this; cases this
  refine ⟨hdst', hnd, hsw', ?_⟩
  intro S w a x bs y hown hx hali hsize hy
  refine wp_loop_rounds k ?_
  -- the slots that are not given back are not written
  have notw : ∀ t ∈ slots, t ∉ Lent.writesOf ins slots → t ∉ dstsOf c := fun t ht hnw hin => by
    have := hdst' t hin
    rw [Lent.D, has_iff, sapp_eq, List.mem_append] at this
    rcases this with h | h
    · exact hsw' t ht h
    · exact hnw h
  have key : ∀ (j : Nat) {S : Nat → Prop} {w : World} {a : Act} {x : ins.ty.den} {bs : List Nat} {y : Out ins.back.den rs.ty.den exits rets}, Own S w bs → ShX S w true ins.sh x (slotVals a slots) bs → AliAt a ali → (∀ t ∈ dstsOf c, t < a.tmps.size) → ln j x = some y →
      Code.rounds P c (LPost P fn c ⟨slots, ins, writes, exits, rets, rs, ln k, ali, none⟩ S w a x bs y) j a w := by
    intro j
    induction j with
    | zero => intro S w a x bs y hown hx hali hsize hy; rw [h0] at hy; cases hy
    | succ j ih =>
      intro S w a x bs y hown hx hali hsize hy
      have hev := hs j x y hy
      unfold evLoop at hev
      obtain ⟨μ1, hm, hr, _⟩ := Sh.mk_ok hx (none_sim hown.sb hown.gl (w := w)) hown.nd (fun b hb => ⟨(hown.old b hb).1, (hown.old b hb).2, none_liv b⟩) (st := ⟨[], [], 0⟩)
      have hfr0 : (Sh.mk ins.sh x ⟨[], [], 0⟩).2.fr = [] := hm.fr
      have hB := hm.sim
      have hliv : ∀ b, Liv μ1 (Sh.mk ins.sh x ⟨[], [], 0⟩).2.bl b ↔ b ∈ bs := fun b => by
        rw [hm.liv]
        exact ⟨fun h => h.resolve_left (none_liv b), .inr⟩
      have hfr : SimF μ1 S w (withAli (Fs.mk ins slots x ⟨[], [], 0⟩).fr ali) a := by
        refine withAli_ok ?_ hali
        show SimF μ1 S w (toSlots slots (Sh.mk ins.sh x ⟨[], [], 0⟩).1 (Sh.mk ins.sh x ⟨[], [], 0⟩).2.fr) a
        rw [hfr0]
        exact toSlots_ok hr
      obtain ⟨a0, ha0, hev⟩ := ob_some hev
      have ha0' : a0 = (Sh.mk ins.sh x ⟨[], [], 0⟩).1 := slotsOf_toSlots hnd hr ((slotsOf_ali (fun q hq => not_has (and3_true (sall_iff.1 hfit q hq)).1)).symm.trans ha0)
      have hn : Now ⟨μ1, S, w, (Fs.mk ins slots x ⟨[], [], 0⟩).bl, (Fs.mk ins slots x ⟨[], [], 0⟩).nb, a, withAli (Fs.mk ins slots x ⟨[], [], 0⟩).fr ali, tmpsOnly fn.results.toList = true⟩ (fun t => has (dstsOf c) t) μ1 S w ⟨withAli (Fs.mk ins slots x ⟨[], [], 0⟩).fr ali, (Fs.mk ins slots x ⟨[], [], 0⟩).bl, (Fs.mk ins slots x ⟨[], [], 0⟩).nb⟩ a :=
        ⟨StepB.refl hB, hfr, rfl, fun _ _ => rfl, ⟨[], rfl⟩, ⟨[], rfl⟩, Mk.refl⟩
      rw [rounds_succ]
      refine wp_mono (ev_ok hL hI (fun h => h) (fun t ht => hsize t (has_iff.1 ht)) hev hn (fun t ht => has_iff.2 ht) hloop hrng) ?_
      intro ex a' w' hq
      -- a round's end
      have fin : ∀ {μ' S1 st'} {T : Prop} {F : Got ins.ty → Option (Out ins.back.den rs.ty.den exits rets)}, Now ⟨μ1, S, w, (Fs.mk ins slots x ⟨[], [], 0⟩).bl, (Fs.mk ins slots x ⟨[], [], 0⟩).nb, a, withAli (Fs.mk ins slots x ⟨[], [], 0⟩).fr ali, tmpsOnly fn.results.toList = true⟩ (fun t => has (dstsOf c) t) μ' S1 w' st' a' →
          (ob (slotsOf st'.fr slots) fun v => ob (Fs.get st'.bl ins v) fun g =>
            cond (and3 (apartK g.refs g.gone) ins.sane (sall (fun k => cond (has (keysOf (stake (Nat.sub (slen st'.bl) (slen (Fs.mk ins slots x ⟨[], [], 0⟩).bl)) st'.bl)) k) false true) (Fs.fixed ins a0))) (F g) none) = some y →
          (∀ (g : Got ins.ty) (S' : Nat → Prop) (bs' : List Nat), F g = some y → Ran S w bs S' w' bs' → ShX S' w' true ins.sh (ins.merge x (ins.proj g.x)) (slotVals a' slots) bs' → Mk (tmpsOnly fn.results.toList = true) w.heap.size a.defers S' w' a'.defers → (∀ D, w'.heap[D]? = some (.deferred (some [])) → D ∉ bs') → a'.tmps.size = a.tmps.size → (∀ t, t ∉ dstsOf c → a'.tmps.getD t undef = a.tmps.getD t undef) → T) → T := by
        intro μ' S1 st' T F hn' hk hT
        obtain ⟨v, hv, hk⟩ := ob_some hk
        obtain ⟨g, hg, hk⟩ := ob_some hk
        obtain ⟨hc, hk⟩ := condT hk
        obtain ⟨hap, hsane, hfix⟩ := and3_true hc
        have hrv := slots_ok hn'.fr hv
        have hs' := hn'.step
        have hkeep : ∀ t, t ∉ dstsOf c → a'.tmps.getD t undef = a.tmps.getD t undef := fun t ht => hn'.keep t (by
          cases hb : has (dstsOf c) t with
          | false => rfl
          | true => exact absurd (has_iff.1 hb) ht)
        obtain ⟨j1, j2, j3, _⟩ := Sh.get_ok (S' := fun b => S1 b ∨ Of μ' st'.bl g.gone b) hs'.1 hg hrv (fun _ => Fs.sh_list _) (fun _ h => .inl h) (fun b hb => .inr hb)
        have hran := ran_of hB hs' hliv j2 j3 hap
        obtain ⟨ε, hε⟩ := hn'.ext
        have hε : st'.bl = ε ++ (Fs.mk ins slots x ⟨[], [], 0⟩).bl := hε
        have hfixat : FixAt st'.bl ins (Sh.mk ins.sh x ⟨[], [], 0⟩).1 x := by
          refine FixAt.of (l := ins) (x := x) (st := ⟨[], [], 0⟩) fun k hk => ?_
          rw [ha0'] at hfix
          have := sall_iff.1 hfix k hk
          rw [hε, stake_app] at this
          have hnk : has (keysOf ε) k = false := by
            cases hb : has (keysOf ε) k with
            | false => rfl
            | true => rw [hb] at this; cases this
          rw [hε]
          exact lk_skip (keys_not hnk)
        have hra : RX μ' S1 w' true (Sh.mk ins.sh x ⟨[], [], 0⟩).1 (slotVals a slots) := RX.step hB hs' hr
        exact hT g _ _ hk hran (Fs.merge_ok (l := ins) hs'.1 (fun b hb => .inl (hs'.2.1.sub b hb)) (fun b hb => .inl hb) (hs'.still hB) hsane hx hra hfixat j1 (agree_slots (fun t ht hnw => hkeep t (notw t ht hnw)) hnd)) (hn'.mks.move (fun D hD hw => ⟨fun h => h.elim hD (fun ⟨k, _, x, p, i1, i2, i3, i4, i5⟩ => Liv.no hs'.1 ⟨k, x, p, i1, i2, i3, i4, i5⟩ hw), hw⟩)) (fun D hw hin => (by
          obtain ⟨k, _, x, p, i1, i2, i3, i4, i5⟩ := (mem_blocksOf j2).1 hin
          exact Liv.no hs'.1 ⟨k, x, p, i1, i2, i3, i4, i5⟩ hw)) hn'.size hkeep
      cases ex with
      | normal =>
        obtain ⟨μ', S1, st', hn', hk⟩ := hq
        refine fin (F := fun g => ln j (ins.merge x (ins.proj g.x))) hn' hk ?_
        intro g S' bs' hF hran hsh hdef' hnm hsz hkeep
        have hmv : ∀ {S2 : Nat → Prop} {w2 : World} {bs2 : List Nat}, Ran S' w' bs' S2 w2 bs2 → ∀ D, ¬ S' D → w'.heap[D]? = some (.deferred (some [])) → ¬ S2 D ∧ w2.heap[D]? = some (.deferred (some [])) := by
          intro S2 w2 bs2 hr2 D hD hw
          have hlt := (Array.getElem?_eq_some_iff.1 hw).1
          refine ⟨fun h => ?_, (hr2.same D hlt (hnm D hw)).trans hw⟩
          rcases hr2.new D h with h | h | h
          · exact hD h
          · omega
          · exact hnm D hw h
        refine rounds_mono ?_ (ih (Ran.own hown hran) hsh (hali.keep hfit hkeep) (fun t ht => by rw [hsz]; exact hsize t ht) hF)
        intro e2 a2 w2 hh
        cases e2 with
        | exit i =>
          obtain ⟨m, hm, S2, bs2, hran2, hsh2, hd2, hsz2, hk2⟩ := hh
          have hsh2 : ShX S2 w2 true ins.sh (ins.merge (ins.merge x (ins.proj g.x)) m) (slotVals a2 slots) bs2 := hsh2
          rw [merge_merge] at hsh2
          exact ⟨m, hm, S2, bs2, hran.trans hran2, hsh2, hdef'.trans hran.size hd2 (hmv hran2), hsz2.trans hsz, fun t ht => (hk2 t ht).trans (hkeep t ht)⟩
        | ret =>
          obtain ⟨z, hz, S2, bs2, v, hran2, hr2, hsh2, hd2⟩ := hh
          exact ⟨z, hz, S2, bs2, v, hran.trans hran2, hr2, hsh2, hdef'.trans hran.size hd2 (hmv hran2)⟩
        | normal => exact hh
        | goto l => exact hh
        | panic c => exact hh
        | outgrown => exact hh
      | exit i =>
        obtain ⟨μ', S1, st', hn', hk⟩ := hq
        refine fin (F := fun g => Out.exit exits rets i (ins.proj g.x)) hn' hk ?_
        intro g S' bs' hF hran hsh hdef' _ hsz hkeep
        exact ⟨ins.proj g.x, hF, S', bs', hran, hsh, hdef', hsz, hkeep⟩
      | ret =>
        obtain ⟨μ', S1, st', v, u, hs', hext, hd, hk, g1, g2⟩ := hq
        obtain ⟨g, hg, hk⟩ := ob_some hk
        obtain ⟨hap, hk⟩ := condT hk
        obtain ⟨i1, i2, i3⟩ := Sh.get_r (S' := fun b => S1 b ∨ Of μ' st'.bl g.gone b) hs'.1 (fun a b e => by rw [e] at hres; exact hres) hg g2 (fun _ h => .inl h) (fun b hb => .inr hb)
        exact ⟨g.x, hk, _, _, u, ran_of hB hs' hliv i2 i3 hap, g1, i1, hd.move (fun D hD hw => ⟨fun h => h.elim hD (fun ⟨k, _, x, p, i1, i2, i3, i4, i5⟩ => Liv.no hs'.1 ⟨k, x, p, i1, i2, i3, i4, i5⟩ hw), hw⟩)⟩
      | goto l =>
        obtain ⟨_, _, _, _, hk⟩ := hq
        obtain ⟨_, _, hk⟩ := ob_some hk
        obtain ⟨_, _, hk⟩ := ob_some hk
        obtain ⟨_, hk⟩ := condT hk
        cases hk
      | panic c => exact hq.elim
      | outgrown => exact hq.elim
  exact key k hown hx hali hsize hy

end
end Go.Pv

/- The table of types, checked by a function; what is run in place. -/
set_option linter.unusedVariables false
set_option linter.unusedSimpArgs false
namespace Go.Pv

section
variable {P : Program} {L : Lib}

/-- What is run in place is run as it is read. -/
theorem inlsOk (hL : LibOk P L) {R : Type} (d : Nat) : InlsOk P (R := R) (inPlace L d) := by
  have key : ∀ d, ∀ R : Type, InlsOk P (R := R) (inPlace L d) := by
    intro d
    induction d using Nat.strongRecOn with
    | _ d ih =>
      intro R
      refine ⟨inPlace_ok hL d fun d' h => ih d' h R, inPlace L d, ?_, inPlace_ok hL d fun d' h => ih d' h _⟩
      intro g as st K
      exact inPlace_nat (L := L) (k := fun p : AV × St => K p.1 p.2) d g as st fun x s => some (x, s)
  exact key d R

end

inductive Z where
  | dat (t : Ty)
  | nil
  | nilfn
  | mk (a b : Z)
  | un
  | junk

def Z.av : Z → AV
  | .dat t => .dat t t.dflt
  | .nil => .nil
  | .nilfn => .nilfn
  | .mk a b => AV.mk a.av b.av
  | .un => .un
  | .junk => .junk

/-- The cells of a type's zero datum. -/
def Ty.zc : Ty → List Value
  | .int k => [.int k 0]
  | .bool => [.bool false]
  | .str => [.string ByteArray.empty]
  | .sl _ => [.slice none 0 0]
  | .arr n e => (List.replicate n e.zc).flatten
  | .pr a b => a.zc ++ b.zc
  | .un => []
  | .err => [.nilIface]
  | .np => [.pointer none]

theorem Ty.zc_ok {S : Nat → Prop} {w : World} : ∀ t : Ty, Rep S w t t.dflt t.zc
  | .int _ => rfl
  | .bool => rfl
  | .str => rfl
  | .sl _ => ⟨none, 0, rfl, Nat.le_refl _, fun h => absurd h (Nat.lt_irrefl 0)⟩
  | .arr n e => ⟨List.length_replicate .., RepRow.replicate (Ty.zc_ok e) n⟩
  | .pr a b => ⟨_, _, rfl, Ty.zc_ok a, Ty.zc_ok b⟩
  | .un => rfl
  | .err => .inl ⟨rfl, rfl⟩
  | .np => rfl

def Z.sane : Z → Bool
  | .junk => false
  | .mk a b => a.sane && b.sane
  | _ => true

def Z.isJunk : Z → Bool
  | .junk => true
  | _ => false

def Z.cells : Z → List Value
  | .dat t => t.zc
  | .nil => [.slice none 0 0]
  | .nilfn => [.nilFunc]
  | .mk a b => a.cells ++ b.cells
  | .un => []
  | .junk => []

theorem Z.ok {μ : Nat → Option At} {S : Nat → Prop} {w : World} : ∀ {z : Z}, z.sane = true → RX μ S w false z.av z.cells
  | .dat t, _ => Ty.zc_ok t
  | .nil, _ => rfl
  | .nilfn, _ => rfl
  | .mk a b, h => by
    rw [Z.sane, Bool.and_eq_true] at h
    exact RC.mk (Z.ok h.1) (Z.ok h.2)
  | .un, _ => rfl

/-- Is this cell that one? -/
def cellB : Value → Value → Bool
  | .int k n, .int k' m => (ksame k k').isSome && decide (n = m)
  | .bool a, .bool b => beqB a b
  | .string s, .string t => Nat.beq s.size 0 && Nat.beq t.size 0
  | .slice none 0 0, .slice none 0 0 => true
  | .nilFunc, .nilFunc => true
  | _, _ => false

theorem ksame_eq {a b : IntKind} (h : (ksame a b).isSome = true) : a = b := by
  cases hk : ksame a b with
  | none => rw [hk] at h; cases h
  | some x => exact x.out

theorem cellB_eq {a b : Value} (h : cellB a b = true) : a = b := by
  unfold cellB at h
  split at h
  · rw [Bool.and_eq_true] at h
    rw [ksame_eq h.1, of_decide_eq_true h.2]
  · rw [beqB_true h]
  · rw [Bool.and_eq_true] at h
    rename_i s t
    have h1 := beq_true h.1
    have h2 := beq_true h.2
    have e1 : s = ByteArray.empty := by
      cases s with | mk d => exact congrArg _ (Array.size_eq_zero_iff.1 h1)
    have e2 : t = ByteArray.empty := by
      cases t with | mk d => exact congrArg _ (Array.size_eq_zero_iff.1 h2)
    rw [e1, e2]
  · rfl
  · rfl
  · cases h

def cellsB : List Value → List Value → Bool
  | [], [] => true
  | a :: l, b :: m => cellB a b && cellsB l m
  | _, _ => false

theorem cellsB_eq : ∀ {l m : List Value}, cellsB l m = true → l = m
  | [], [], _ => rfl
  | a :: l, b :: m, h => by
    rw [cellsB, Bool.and_eq_true] at h
    rw [cellB_eq h.1, cellsB_eq h.2]
  | [], _ :: _, h => by cases h
  | _ :: _, [], h => by cases h

structure TE where
  pure : Bool
  ty : Ty
  k : TK
  size : Nat
  bytes : Nat
  agg : Bool
  z : Z

def TE.ti (e : TE) : TI := ⟨e.pure, e.ty, e.k, e.size, e.bytes, e.agg, e.z.av⟩
def te0 : TE := ⟨false, .un, .other, 0, 0, false, .junk⟩
def teAt (tl : List (Nat × TE)) (t : Nat) : TE := match lk tl t with | some e => e | none => te0
def tiAt (tl : List (Nat × TE)) (t : Nat) : TI := (teAt tl t).ti

def isAggD : TypeDesc → Bool
  | .struct _ | .array _ _ => true
  | _ => false

def fsB : List (Nat × Nat) → List (Nat × Nat) → Bool
  | [], [] => true
  | a :: l, b :: m => Nat.beq a.1 b.1 && Nat.beq a.2 b.2 && fsB l m
  | _, _ => false

theorem fsB_eq : ∀ {l m : List (Nat × Nat)}, fsB l m = true → l = m
  | [], [], _ => rfl
  | a :: l, b :: m, h => by
    simp only [fsB, Bool.and_eq_true] at h
    rw [fsB_eq h.2]
    have h1 := beq_true h.1.1
    have h2 := beq_true h.1.2
    cases a; cases b; simp_all
  | [], _ :: _, h => by cases h
  | _ :: _, [], h => by cases h

/-- Is this the type's description? -/
def tdB : TK → Ty → TypeDesc → Bool
  | .plain, .int k, .int k' => (ksame k k').isSome
  | .plain, .bool, .bool => true
  | .plain, .str, .string => true
  | .slice x, _, .slice y => Nat.beq x y
  | .array n x, _, .array m y => Nat.beq n m && Nat.beq x y
  | .struct fs, _, .struct g => fsB (g.toList.map fun f => (f.offset, f.type)) fs
  | .map k v, _, .map k' v' => Nat.beq k k' && Nat.beq v v'
  | .other, _, _ => true
  | .iface, _, .interface _ => true
  | .ptr x, _, .pointer y => Nat.beq x y
  | _, _, _ => false

/-- The type of a struct's data. -/
def tailTy (T : Nat → TE) : List (Nat × Nat) → Ty
  | [] => .un
  | [f] => (T f.2).ty
  | f :: r => .pr (T f.2).ty (tailTy T r)
def structTy (T : Nat → TE) : List (Nat × Nat) → Ty
  | [f] => .pr (T f.2).ty .un
  | l => tailTy T l

/-- Do the fields lie one behind the other, and are they data? -/
def inLine (T : Nat → TE) : Nat → List (Nat × Nat) → Option Nat
  | o, [] => some o
  | o, f :: r => cond (Nat.beq f.1 o && (T f.2).pure) (inLine T (Nat.add o (T f.2).size) r) none

def tyB (a b : Ty) : Bool := (Ty.same a b).isSome
theorem tyB_eq {a b : Ty} (h : tyB a b = true) : a = b := by
  unfold tyB at h
  cases hk : Ty.same a b with
  | none => rw [hk] at h; cases h
  | some x => exact x.out

/-- Of data: its parts. -/
def pureB (T : Nat → TE) (e : TE) : Bool :=
  match e.k with
  | .plain => (match e.ty with | .int _ | .bool | .str => true | _ => false)
  | .slice x => (T x).pure && tyB e.ty (.sl (T x).ty)
  | .array n x => (T x).pure && tyB e.ty (.arr n (T x).ty)
  | .struct fs => tyB e.ty (structTy T fs) && (match inLine T 0 fs with | some n => Nat.beq n e.size | none => false)
  | _ => false

def TE.okB (P : Program) (T : Nat → TE) (t : Nat) (e : TE) : Bool :=
  match P.info? t, P.underlying t with
  | some i, some d =>
    !(Nat.beq e.size 0) && !(Nat.beq e.bytes 0) && Nat.beq i.size e.size && Nat.beq i.bytes e.bytes && tdB e.k e.ty d && beqB (isAggD d) e.agg &&
    (e.z.sane || e.z.isJunk) && (!e.z.sane || (beqB e.z.av.agg e.agg && (match i.zero with
      | some (.agg cs) => e.agg && cellsB cs.toList e.z.cells
      | some v => !e.agg && cellsB [v] e.z.cells
      | none => false))) &&
    (!e.pure || (e.z.sane && Nat.beq e.ty.size e.size && beqB e.ty.agg e.agg && cellsB e.z.cells e.ty.zc && pureB T e)) &&
    (match e.k with
      | .plain => e.pure
      | .slice x => !(Nat.beq (T x).size 0) && Nat.beq e.size 1 && !e.agg && (!(T x).pure || (e.pure && tyB e.ty (.sl (T x).ty)))
      | .array n x => !(Nat.beq (T x).size 0) && e.agg && Nat.beq e.size (Nat.mul n (T x).size) && !(P.eqGuardType P.depth t) && (!e.pure || ((T x).pure && tyB e.ty (.arr n (T x).ty)))
      | .struct fs => e.agg && sall (fun p => !(Nat.beq (T p.2).size 0)) fs && (!(e.pure && e.ty.nums) || (!(P.stoodInHeld t) && !(P.eqGuardType P.depth t) && (match P.underlying t with | some (.struct g) => eqsB P 0 g.toList e.ty | _ => false)))
      | .map k v => !(Nat.beq (T k).size 0) && !(Nat.beq (T v).size 0)
      | .other | .iface | .ptr _ => true)
  | _, _ => false

def tlOk (P : Program) (tl : List (Nat × TE)) : List (Nat × TE) → Bool
  | [] => true
  | p :: r => p.2.okB P (teAt tl) p.1 && tlOk P tl r

theorem nbeq {a b : Nat} (h : (!(Nat.beq a b)) = true) : a ≠ b := by
  intro e
  subst e
  rw [Nat.beq_refl] at h
  cases h

theorem Z.av_not {z : Z} (h : z.av ≠ .junk) (hz : (z.sane || z.isJunk) = true) : z.sane = true := by
  cases z with
  | junk => exact absurd rfl h
  | mk a b => simpa [Z.isJunk] using hz
  | _ => rfl

structure TeOk (P : Program) (T : Nat → TE) (t : Nat) (e : TE) : Prop where
  ex : ∃ i d, P.info? t = some i ∧ P.underlying t = some d ∧ e.size ≠ 0 ∧ e.bytes ≠ 0 ∧ i.size = e.size ∧ i.bytes = e.bytes ∧ tdB e.k e.ty d = true ∧ isAggD d = e.agg ∧ (e.z.sane || e.z.isJunk) = true ∧
    (e.z.sane = true → e.z.av.agg = e.agg ∧ ((e.agg = true ∧ i.zero = some (.agg e.z.cells.toArray)) ∨ (e.agg = false ∧ ∃ v, i.zero = some v ∧ e.z.cells = [v] ∧ v.cells = #[v])))
  pure : e.pure = true → e.z.sane = true ∧ e.ty.size = e.size ∧ e.ty.agg = e.agg ∧ e.z.cells = e.ty.zc ∧ pureB T e = true
  kind : (match e.k with
      | .plain => e.pure
      | .slice x => !(Nat.beq (T x).size 0) && Nat.beq e.size 1 && !e.agg && (!(T x).pure || (e.pure && tyB e.ty (.sl (T x).ty)))
      | .array n x => !(Nat.beq (T x).size 0) && e.agg && Nat.beq e.size (Nat.mul n (T x).size) && !(P.eqGuardType P.depth t) && (!e.pure || ((T x).pure && tyB e.ty (.arr n (T x).ty)))
      | .struct fs => e.agg && sall (fun p => !(Nat.beq (T p.2).size 0)) fs && (!(e.pure && e.ty.nums) || (!(P.stoodInHeld t) && !(P.eqGuardType P.depth t) && (match P.underlying t with | some (.struct g) => eqsB P 0 g.toList e.ty | _ => false)))
      | .map k v => !(Nat.beq (T k).size 0) && !(Nat.beq (T v).size 0)
      | .other | .iface | .ptr _ => true) = true

theorem teOk_of {P : Program} {T : Nat → TE} {t : Nat} {e : TE} (h : e.okB P T t = true) : TeOk P T t e := by
  unfold TE.okB at h
  split at h
  · rename_i i d hi hd
    simp only [Bool.and_eq_true] at h
    obtain ⟨⟨⟨⟨⟨⟨⟨⟨⟨h1, h2⟩, h3⟩, h4⟩, h5⟩, h6⟩, h60⟩, h7⟩, h8⟩, h9⟩ := h
    refine ⟨⟨i, d, hi, hd, nbeq h1, nbeq h2, beq_true h3, beq_true h4, h5, beqB_true h6, h60, ?_⟩, ?_, h9⟩
    · intro hs
      rw [hs] at h7
      simp only [Bool.not_true, Bool.false_or, Bool.and_eq_true] at h7
      refine ⟨beqB_true h7.1, ?_⟩
      have h7 := h7.2
      cases hz : i.zero with
      | none => rw [hz] at h7; cases h7
      | some v =>
        rw [hz] at h7
        have other : v.cells = #[v] → (!e.agg && cellsB [v] e.z.cells) = true → (e.agg = true ∧ some v = some (.agg e.z.cells.toArray)) ∨ (e.agg = false ∧ ∃ v', some v = some v' ∧ e.z.cells = [v'] ∧ v'.cells = #[v']) := by
          intro hc h
          rw [Bool.and_eq_true, Bool.not_eq_true'] at h
          exact .inr ⟨h.1, v, rfl, (cellsB_eq h.2).symm, hc⟩
        cases v with
        | agg cs =>
          simp only [Bool.and_eq_true] at h7
          refine .inl ⟨h7.1, ?_⟩
          rw [← cellsB_eq h7.2]
        | _ => exact other rfl h7
    · intro hp
      rw [hp] at h8
      simp only [Bool.not_true, Bool.false_or, Bool.and_eq_true] at h8
      exact ⟨h8.1.1.1.1, beq_true h8.1.1.1.2, beqB_true h8.1.1.2, cellsB_eq h8.1.2, h8.2⟩
  · cases h

theorem tlOk_mem {P : Program} {tl : List (Nat × TE)} : ∀ {l : List (Nat × TE)}, tlOk P tl l = true → ∀ p ∈ l, TeOk P (teAt tl) p.1 p.2
  | [], _, p, hp => by cases hp
  | q :: l, h, p, hp => by
    rw [tlOk, Bool.and_eq_true] at h
    rcases List.mem_cons.1 hp with rfl | hp
    · exact teOk_of h.1
    · exact tlOk_mem h.2 p hp

theorem lk_mem {α : Type} {l : List (Nat × α)} {k : Nat} {x : α} (h : lk l k = some x) : (k, x) ∈ l := by
  induction l with
  | nil => cases h
  | cons p r ih =>
    rw [lk_cons] at h
    by_cases hk : p.1 = k
    · rw [if_pos hk] at h
      cases h
      subst hk
      exact List.mem_cons_self
    · rw [if_neg hk] at h
      exact List.mem_cons_of_mem _ (ih h)

theorem teAt_ok {P : Program} {tl : List (Nat × TE)} (h : tlOk P tl tl = true) (t : Nat) : teAt tl t = te0 ∨ TeOk P (teAt tl) t (teAt tl t) := by
  unfold teAt
  cases hk : lk tl t with
  | none => exact .inl rfl
  | some e => exact .inr (tlOk_mem h _ (lk_mem hk))

theorem tiOk_of {P : Program} {tl : List (Nat × TE)} (h : tlOk P tl tl = true) (t : Nat) : TiOk P (tiAt tl) t := by
  have hx : ∀ e, teAt tl t = e → tiAt tl t = e.ti := fun e he => by rw [← he]; rfl
  rcases teAt_ok h t with h0 | hok
  · have h1 := hx _ h0
    refine ⟨?_, ?_, ?_, ?_, ?_, ?_, ?_⟩
    · rw [h1]; exact fun hh => absurd rfl hh
    · rw [h1]; exact fun hh => absurd rfl hh
    · rw [h1]; exact fun hh => absurd rfl hh
    · rw [h1]; intro hh; cases hh
    · rw [h1]; intro hh; cases hh
    · rw [h1]; intro n e hh; cases hh
    · rw [h1]; trivial
  · have h1 := hx _ rfl
    obtain ⟨i, d, hi, hd, hs, hb, his, hib, htd, hag, hjz, hz⟩ := hok.ex
    generalize teAt tl t = e at hok h1 hs hb his hib htd hag hjz hz
    refine ⟨?_, ?_, ?_, ?_, ?_, ?_, ?_⟩
    · rw [h1]; exact fun _ => ⟨i, hi, his, hib, hb⟩
    · rw [h1]
      intro hj
      have hsane : e.z.sane = true := Z.av_not hj hjz
      obtain ⟨ha, hz⟩ := hz hsane
      refine ⟨ha, i, ?_⟩
      have hrx : ∀ μ S w, RX μ S w false e.z.av e.z.cells := fun μ S w => Z.ok hsane
      rcases hz with ⟨hag, hz⟩ | ⟨hag, v, hz, hc, _⟩
      · exact ⟨_, hi, hz, fun μ S w => ⟨RV.of_agg (hrx μ S w) (ha.trans hag), (RX.not_cons (hrx μ S w)).2⟩⟩
      · refine ⟨_, hi, hz, fun μ S w => ⟨RV.of_one ?_ (ha.trans hag), (RX.not_cons (hrx μ S w)).2⟩⟩
        have := hrx μ S w
        rw [hc] at this
        exact this
    · rw [h1]
      intro _ w
      show (isAgg t).run P w = .ok e.agg w
      rw [← hag]
      unfold isAgg underlying
      simp [hd]
      cases d <;> rfl
    · rw [h1]
      intro hp
      obtain ⟨p1, p2, p3, p4, p5⟩ := hok.pure hp
      obtain ⟨ha, hz⟩ := hz p1
      refine ⟨hs, p2, p3, i, ?_⟩
      rcases hz with ⟨hag, hz⟩ | ⟨hag, v, hz, hc, hvc⟩
      · refine ⟨_, hi, hz, fun S w => ?_⟩
        show Rep S w e.ty e.ty.dflt e.z.cells.toArray.toList
        rw [p4]
        exact Ty.zc_ok e.ty
      · refine ⟨_, hi, hz, fun S w => ?_⟩
        rw [hvc]
        show Rep S w e.ty e.ty.dflt [v]
        rw [← hc, p4]
        exact Ty.zc_ok e.ty
    · rw [h1]
      intro hp
      obtain ⟨p1, p2, p3, p4, p5⟩ := hok.pure hp
      obtain ⟨ha, hz⟩ := hz p1
      refine ⟨i, ?_⟩
      rcases hz with ⟨hag, hz⟩ | ⟨hag, v, hz, hc, hvc⟩
      · refine ⟨_, hi, hz, fun S w => ?_⟩
        show ValOf S w e.ty e.ty.dflt _
        unfold ValOf
        rw [p3, hag, p4]
        exact ⟨_, rfl, Ty.zc_ok e.ty⟩
      · refine ⟨_, hi, hz, fun S w => ?_⟩
        show ValOf S w e.ty e.ty.dflt _
        unfold ValOf
        rw [p3, hag]
        show Rep S w e.ty e.ty.dflt [v]
        rw [← hc, p4]
        exact Ty.zc_ok e.ty
    · rw [h1]
      intro n x hk
      have hk : e.k = .array n x := hk
      have := hok.kind
      rw [hk] at this
      simp only [Bool.and_eq_true, Bool.not_eq_true'] at this
      exact this.1.2
    · rw [h1]
      have hkd := hok.kind
      show (match e.k with
        | .plain => e.pure = true ∧ match e.ty with
          | .int k => P.underlying t = some (.int k)
          | .bool => P.underlying t = some .bool
          | .str => P.underlying t = some .string
          | _ => True
        | .slice x => P.underlying t = some (.slice x) ∧ (tiAt tl x).size ≠ 0 ∧ e.size = 1 ∧ e.agg = false ∧ ((tiAt tl x).pure = true → e.pure = true ∧ e.ty = .sl (tiAt tl x).ty)
        | .array n x => P.underlying t = some (.array n x) ∧ (tiAt tl x).size ≠ 0 ∧ e.agg = true ∧ e.size = n * (tiAt tl x).size ∧ (e.pure = true → (tiAt tl x).pure = true ∧ e.ty = .arr n (tiAt tl x).ty)
        | .struct fs => ∃ fields, P.underlying t = some (.struct fields) ∧ e.agg = true ∧ fields.toList.map (fun f => (f.offset, f.type)) = fs ∧ (∀ p ∈ fs, (tiAt tl p.2).size ≠ 0) ∧
            (e.pure = true → e.ty.nums = true → P.stoodInHeld t = false ∧ P.eqGuardType P.depth t = false ∧ eqsB P 0 fields.toList e.ty = true)
        | .map k v => P.underlying t = some (.map k v) ∧ (tiAt tl k).size ≠ 0 ∧ (tiAt tl v).size ≠ 0
        | .other => True
        | .iface => ∃ ms, P.underlying t = some (.interface ms)
        | .ptr x => P.underlying t = some (.pointer x))
      cases hk : e.k with
      | plain =>
        rw [hk] at hkd htd
        refine ⟨hkd, ?_⟩
        cases hty : e.ty with
        | int k =>
          rw [hty] at htd
          cases d with
          | int k' => rw [hd, ksame_eq htd]
          | _ => cases htd
        | bool =>
          rw [hty] at htd
          cases d with
          | bool => exact hd
          | _ => cases htd
        | str =>
          rw [hty] at htd
          cases d with
          | string => exact hd
          | _ => cases htd
        | _ => trivial
      | slice x =>
        rw [hk] at hkd htd
        simp only [Bool.and_eq_true, Bool.not_eq_true'] at hkd
        obtain ⟨⟨⟨g1, g2⟩, g3⟩, g4⟩ := hkd
        refine ⟨?_, nbeq (by rw [Bool.not_eq_true']; exact g1), beq_true g2, g3, fun hp => ?_⟩
        · cases d with
          | slice y => rw [hd, beq_true htd]
          | _ => cases hty : e.ty <;> rw [hty] at htd <;> cases htd
        · have hp : (teAt tl x).pure = true := hp
          rw [hp] at g4
          simp only [Bool.not_true, Bool.false_or, Bool.and_eq_true] at g4
          exact ⟨g4.1, tyB_eq g4.2⟩
      | array n x =>
        rw [hk] at hkd htd
        simp only [Bool.and_eq_true, Bool.not_eq_true'] at hkd
        obtain ⟨⟨⟨⟨g1, g2⟩, g3⟩, _⟩, g4⟩ := hkd
        refine ⟨?_, nbeq (by rw [Bool.not_eq_true']; exact g1), g2, beq_true g3, fun hp => ?_⟩
        · cases d with
          | array m y =>
            have htd' : (Nat.beq n m && Nat.beq x y) = true := by cases hty : e.ty <;> rw [hty] at htd <;> exact htd
            rw [Bool.and_eq_true] at htd'
            rw [hd, beq_true htd'.1, beq_true htd'.2]
          | _ => cases hty : e.ty <;> rw [hty] at htd <;> cases htd
        · rw [hp] at g4
          simp only [Bool.not_true, Bool.false_or, Bool.and_eq_true] at g4
          exact ⟨g4.1, tyB_eq g4.2⟩
      | struct fs =>
        rw [hk] at hkd htd
        simp only [Bool.and_eq_true] at hkd
        cases d with
        | struct g =>
          refine ⟨g, hd, hkd.1.1, ?_, fun p hp => nbeq (sall_iff.1 hkd.1.2 p hp), fun hp hn => ?_⟩
          rotate_left
          · have h3 := hkd.2
            rw [hp, hn, hd] at h3
            simp only [Bool.and_self, Bool.not_true, Bool.false_or, Bool.and_eq_true, Bool.not_eq_true'] at h3
            exact ⟨h3.1.1, h3.1.2, h3.2⟩
          have htd' : fsB (g.toList.map fun f => (f.offset, f.type)) fs = true := by cases hty : e.ty <;> rw [hty] at htd <;> exact htd
          exact fsB_eq htd'
        | _ => cases hty : e.ty <;> rw [hty] at htd <;> cases htd
      | map k v =>
        rw [hk] at hkd htd
        simp only [Bool.and_eq_true] at hkd
        refine ⟨?_, nbeq hkd.1, nbeq hkd.2⟩
        cases d with
        | map k' v' =>
          have htd' : (Nat.beq k k' && Nat.beq v v') = true := by cases hty : e.ty <;> rw [hty] at htd <;> exact htd
          rw [Bool.and_eq_true] at htd'
          rw [hd, beq_true htd'.1, beq_true htd'.2]
        | _ => cases hty : e.ty <;> rw [hty] at htd <;> cases htd
      | other => trivial
      | iface =>
        rw [hk] at htd
        cases d with
        | interface ms => exact ⟨ms, hd⟩
        | _ => cases hty : e.ty <;> rw [hty] at htd <;> cases htd
      | ptr x =>
        rw [hk] at htd
        cases d with
        | pointer y =>
          have htd' : Nat.beq x y = true := by cases hty : e.ty <;> rw [hty] at htd <;> exact htd
          show P.underlying t = some (.pointer x)
          rw [hd, beq_true htd']
        | _ => cases hty : e.ty <;> rw [hty] at htd <;> cases htd

end Go.Pv
