/- The mathematics of stations, part 5. -/
import Derived.Test.YtbpjodikknbcoaaGreatDoorMs4
import Derived.Lib.IndexBytes
import Derived.Lib.ItoaNum
import Derived.Lib.AtoiAll
import Derived.Lib.AtoiTie
import Derived.KernelRfl
import Derived.Lib.AtoiAllCases
set_option maxRecDepth 1000000
set_option linter.unusedVariables false
set_option linter.unusedSimpArgs false
namespace Go.Proofs.YtbpjodikknbcoaaGreatDoor
open Go Go.Pv
theorem kind_rng {h : ByteArray} {k : Int} {w : Bool} (e : kindF h = some (k, w)) : 0 ≤ k ∧ k ≤ 6 := by
  unfold kindF at e
  repeat (split at e; · cases e; decide)
  cases e
theorem parse_rng {x : ByteArray} {k n : Int} (e : parseF x = some (k, n)) : (∃ w, kindF (headF x) = some (k, w)) ∧ (0 ≤ k ∧ k ≤ 6) ∧ ∃ m : Nat, n = (m : Int) ∧ m ≤ 9999 := by
  have hp : parseF x = match kindF (headF x) with
      | none => none
      | some (k, w) => if 40 < x.size ∨ decide (fi 32 (by_ x) < (by_ x).length) ≠ w then none else if w = false then some (k, 0) else (numF ((by_ x).drop (fi 32 (by_ x) + 1))).map fun n : Nat => (k, (n : Int)) := rfl
  rw [hp] at e
  cases hk : kindF (headF x) with
  | none => rw [hk] at e; cases e
  | some p =>
    obtain ⟨k', w⟩ := p
    rw [hk] at e
    have e : (if 40 < x.size ∨ decide (fi 32 (by_ x) < (by_ x).length) ≠ w then none else if w = false then some (k', 0) else (numF ((by_ x).drop (fi 32 (by_ x) + 1))).map fun n : Nat => (k', (n : Int))) = some (k, n) := e
    have hr := kind_rng hk
    split at e
    · cases e
    · split at e
      · cases e
        exact ⟨⟨w, rfl⟩, hr, 0, rfl, by omega⟩
      · cases hn : numF ((by_ x).drop (fi 32 (by_ x) + 1)) with
        | none => rw [hn] at e; cases e
        | some m =>
          rw [hn] at e
          cases e
          exact ⟨⟨w, rfl⟩, hr, m, rfl, (atoi_same hn).2.2⟩
theorem pick {x : Sv} {c : Prop} [Decidable c] {a b : Int × Sv} (ha : a.1 ≠ 0 → a.2 = x) (hb : b.1 ≠ 0 → b.2 = x) : (if c then a else b).1 ≠ 0 → (if c then a else b).2 = x := by
  split
  · exact ha
  · exact hb
theorem fire_err (w : List Int) (n : Nat) (x : Sv) : (fireF w n x).1 ≠ 0 → (fireF w n x).2 = x := by
  unfold fireF
  exact pick (fun _ => rfl) (pick (fun _ => rfl) (pick (fun _ => rfl) (fun h => absurd rfl h)))
theorem exe_err (w : List Int) (b : Box) (need k : Int) (n : Nat) (x : Sv) : (exeF w b need k n x).1 ≠ 0 → (exeF w b need k n x).2 = x := by
  unfold exeF
  exact pick (pick (fun _ => rfl) (fun h => absurd rfl h)) (pick (pick (fun h => absurd rfl h) (fun _ => rfl))
    (pick (pick (fun _ => rfl) (pick (fun _ => rfl) (fun h => absurd rfl h))) (pick (pick (fun _ => rfl) (fun h => absurd rfl h))
    (pick (pick (fun _ => rfl) (pick (fun _ => rfl) (fun h => absurd rfl h))) (pick (fire_err w n x) (pick (fun _ => rfl) (pick (fun _ => rfl) (fun h => absurd rfl h))))))))
/-- What an order's text does: an error, and what is then. -/
noncomputable def doF (w : List Int) (b : Box) (need : Int) (text : ByteArray) (x : Sv) : Int × Sv :=
  match parseF text with
  | none => (2, x)
  | some (k, n) => if 100 ≤ x.orders.length then (3, x) else if (exeF w b need k n.toNat x).1 = 0 then (0, { (exeF w b need k n.toNat x).2 with orders := (exeF w b need k n.toNat x).2.orders ++ [text] }) else ((exeF w b need k n.toNat x).1, x)
theorem clone104 (l : List ByteArray) (h : l.length ≤ 1000) : implf104 KK l = some l := by
  unfold implf104
  rw [if_pos (by simp; omega)]; simp
theorem do73 (m : Int × Int) (t w : List Int) (b : Box) (ht : vTone t = 0) (hw : vWeights w = 0) (hb : vBox b = 0) {N M : Nat} (hN : N ≤ 90000000) (hM : M ≤ 900000000) {x : Sv} (hx : Fine b N x) (hy : Rich M x) (ho : ∀ k n, (exeF w b (needF t) k n x).2.orders = x.orders) (text : ByteArray) (hs : text.size ≤ 9223372036854775807) :
    implf73 KK (stnOf m t w b x) text = some ((doF w b (needF t) text x).1, stnOf m t w b (doF w b (needF t) text x).2) := by
  unfold implf73 doF
  rw [parse102 text hs]
  cases hp : parseF text with
  | none => rfl
  | some p =>
    obtain ⟨k, n⟩ := p
    obtain ⟨-, hk, c, rfl, hc⟩ := parse_rng hp
    simp only [obS, Bool.not_true, cond_false, cdec, Int.toNat_natCast]
    show (if (x.orders.length : Int) ≥ 100 then _ else _) = _
    by_cases e0 : 100 ≤ x.orders.length
    · rw [if_pos (show (x.orders.length : Int) ≥ 100 by omega), if_pos e0]
    · rw [if_neg (show ¬ (x.orders.length : Int) ≥ 100 by omega), if_neg e0]
      have he := exe103 m t w b ht hw hb hN hM hx hy x k hk c hc
      show ob (implf103 KK (stnOf m t w b x) (stOf x) (k, (c : Int))) _ = _
      rw [he]
      have hoo := ho k c
      obtain ⟨y, hy2⟩ : ∃ y, y = exeF w b (needF t) k c x := ⟨_, rfl⟩
      rw [← hy2] at hoo ⊢
      show (bif !decide (y.1 = 0) then _ else _) = _
      rw [cnot, cdec]
      by_cases e1 : y.1 = 0
      · rw [if_pos e1, if_pos e1]
        show ob (implf104 KK y.2.orders) _ = _
        rw [clone104 _ (by rw [hoo]; omega)]
        show (if (y.2.orders.length + 1) * 16 ≤ 140737488355328 then _ else none) = _
        rw [if_pos (by rw [hoo]; omega)]
        rfl
      · rw [if_neg e1, if_neg e1]
theorem pickO {o : List ByteArray} {c : Prop} [Decidable c] {a b : Int × Sv} (ha : a.2.orders = o) (hb : b.2.orders = o) : (if c then a else b).2.orders = o := by
  split
  · exact ha
  · exact hb
theorem pass_orders (b : Box) (need : Int) (x : Sv) : (passF b need x).orders = x.orders := by
  unfold passF
  split
  · rfl
  · split <;> rfl
theorem hours_orders (b : Box) (need : Int) : ∀ (n : Nat) (x : Sv), (hoursF b need n x).orders = x.orders
  | 0, _ => rfl
  | n + 1, x => (hours_orders b need n (passF b need x)).trans (pass_orders b need x)
theorem fire_orders (w : List Int) (n : Nat) (x : Sv) : (fireF w n x).2.orders = x.orders := by
  unfold fireF
  exact pickO rfl (pickO rfl (pickO rfl rfl))
theorem exe_orders (w : List Int) (b : Box) (need k : Int) (n : Nat) (x : Sv) : (exeF w b need k n x).2.orders = x.orders := by
  unfold exeF
  exact pickO (pickO rfl rfl) (pickO (pickO rfl rfl) (pickO (pickO rfl (pickO rfl rfl)) (pickO (pickO rfl (hours_orders b need n x))
    (pickO (pickO rfl (pickO rfl rfl)) (pickO (fire_orders w n x) (pickO rfl (pickO rfl rfl)))))))
theorem do40 (t w : List Int) (b : Box) (ht : vTone t = 0) (hw : vWeights w = 0) (hb : vBox b = 0) {N M : Nat} (hN : N ≤ 90000000) (hM : M ≤ 900000000) {x : Sv} (hx : Fine b N x) (hy : Rich M x) (text : ByteArray) (hs : text.size ≤ 100000) :
    implf40 KK (refOf w b (needF t) x) text = some ((doF w b (needF t) text x).1, refOf w b (needF t) (doF w b (needF t) text x).2) := by
  unfold implf40 doF
  rw [parse79 text hs]
  cases hp : parseF text with
  | none => rfl
  | some p =>
    obtain ⟨k, n⟩ := p
    obtain ⟨⟨wn, hkd⟩, hk, c, rfl, hc⟩ := parse_rng hp
    simp only [obS, Bool.not_true, cond_false, cdec, Int.toNat_natCast]
    show (if (x.orders.length : Int) ≥ 100 then _ else _) = _
    by_cases e0 : 100 ≤ x.orders.length
    · rw [if_pos (show (x.orders.length : Int) ≥ 100 by omega), if_pos e0]
    · rw [if_neg (show ¬ (x.orders.length : Int) ≥ 100 by omega), if_neg e0]
      have he := exe80 t w b ht hw hb hN hM hx hy (headF text) k wn hkd c hc
      show ob (implf80 KK (refOf w b (needF t) x) (headF text, (c : Int))) _ = _
      rw [he]
      have hoo := exe_orders w b (needF t) k c x
      have her := exe_err w b (needF t) k c x
      obtain ⟨y, hy2⟩ : ∃ y, y = exeF w b (needF t) k c x := ⟨_, rfl⟩
      rw [← hy2] at hoo her ⊢
      show (bif y.1 == 0 then _ else _) = _
      rw [ibeq, cdec]
      by_cases e1 : y.1 = 0
      · rw [if_pos e1, if_pos e1]
        show (if (y.2.orders.length + 1) * 16 ≤ 140737488355328 then _ else none) = _
        rw [if_pos (by rw [hoo]; omega), e1]
        rfl
      · rw [if_neg e1, if_neg e1]
        show some (y.1, refOf w b (needF t) y.2) = _
        rw [her e1]
/-- A right kit. -/
structure RKit (t w : List Int) (b : Box) : Prop where
  ht : vTone t = 0
  hw : vWeights w = 0
  hb : vBox b = 0
theorem kit_of {t w : List Int} {b : Box} (h : kitErr t w b = 0) : RKit t w b := by
  unfold kitErr at h
  by_cases e1 : vTone t = 0
  · rw [if_pos e1] at h
    by_cases e2 : vWeights w = 0
    · rw [if_pos e2] at h; exact ⟨e1, e2, h⟩
    · rw [if_neg e2] at h; exact absurd h e2
  · rw [if_neg e1] at h; exact absurd h e1
/-- What orders keep. -/
structure Inv (b : Box) (need : Int) (n : Nat) (x : Sv) : Prop where
  fine : Fine b (99 * n) x
  rich : Rich (10000 * n) x
  air : x.pumped = x.air + x.sounded * need
  stk : x.stocked = x.stock + x.used
theorem fine_mono {b : Box} {N N' : Nat} {x : Sv} (h : Fine b N x) (hN : N ≤ N') : Fine b N' x := by
  have := h.h1
  exact ⟨h.st0, h.st1, h.h0, by omega, h.f0, h.f1, h.s0, h.m0, h.sm, h.a0, h.a1⟩
theorem rich_mono {M M' : Nat} {x : Sv} (h : Rich M x) (hM : M ≤ M') : Rich M' x := by
  have h1 := h.m1; have h2 := h.u1; have h3 := h.p1; have h4 := h.k1
  exact ⟨h.c0, h.c1, h.m0, by omega, h.u0, by omega, h.p0, by omega, h.k0, by omega⟩
theorem inv_mono {b : Box} {need : Int} {n n' : Nat} {x : Sv} (h : Inv b need n x) (hn : n ≤ n') : Inv b need n' x :=
  ⟨fine_mono h.fine (by omega), rich_mono h.rich (by omega), h.air, h.stk⟩
theorem pickP {P : Sv → Prop} {c : Prop} [Decidable c] {a b : Int × Sv} (ha : c → P a.2) (hb : ¬c → P b.2) : P (if c then a else b).2 := by
  by_cases h : c
  · rw [if_pos h]; exact ha h
  · rw [if_neg h]; exact hb h
theorem pass_rest (b : Box) (need : Int) (x : Sv) : (passF b need x).stock = x.stock ∧ (passF b need x).amount = x.amount ∧ (passF b need x).used = x.used ∧ (passF b need x).pumped = x.pumped ∧ (passF b need x).stocked = x.stocked ∧
    (passF b need x).air + (passF b need x).sounded * need = x.air + x.sounded * need := by
  unfold passF
  split
  · exact ⟨rfl, rfl, rfl, rfl, rfl, rfl⟩
  · split
    · exact ⟨rfl, rfl, rfl, rfl, rfl, rfl⟩
    · refine ⟨rfl, rfl, rfl, rfl, rfl, ?_⟩
      show x.air - need + (x.sounded + 1) * need = _
      rw [Int.add_mul, Int.one_mul]; omega
theorem hours_rest (b : Box) (need : Int) : ∀ (n : Nat) (x : Sv), (hoursF b need n x).stock = x.stock ∧ (hoursF b need n x).amount = x.amount ∧ (hoursF b need n x).used = x.used ∧ (hoursF b need n x).pumped = x.pumped ∧ (hoursF b need n x).stocked = x.stocked ∧
    (hoursF b need n x).air + (hoursF b need n x).sounded * need = x.air + x.sounded * need
  | 0, _ => ⟨rfl, rfl, rfl, rfl, rfl, rfl⟩
  | n + 1, x => by
    obtain ⟨a1, a2, a3, a4, a5, a6⟩ := hours_rest b need n (passF b need x)
    obtain ⟨b1, b2, b3, b4, b5, b6⟩ := pass_rest b need x
    exact ⟨a1.trans b1, a2.trans b2, a3.trans b3, a4.trans b4, a5.trans b5, a6.trans b6⟩
theorem rich_of {M : Nat} {x y : Sv} (h : Rich M x) (e1 : y.stock = x.stock) (e2 : y.amount = x.amount) (e3 : y.used = x.used) (e4 : y.pumped = x.pumped) (e5 : y.stocked = x.stocked) : Rich M y :=
  ⟨by rw [e1]; exact h.c0, by rw [e1]; exact h.c1, by rw [e2]; exact h.m0, by rw [e2]; exact h.m1, by rw [e3]; exact h.u0, by rw [e3]; exact h.u1, by rw [e4]; exact h.p0, by rw [e4]; exact h.p1, by rw [e5]; exact h.k0, by rw [e5]; exact h.k1⟩
theorem fine_of {b : Box} {N : Nat} {x y : Sv} (h : Fine b N x) (e1 : y.state = x.state) (e2 : y.hour = x.hour) (e3 : y.foggy = x.foggy) (e4 : y.sounded = x.sounded) (e5 : y.missed = x.missed) (e6 : y.air = x.air) : Fine b N y :=
  ⟨by rw [e1]; exact h.st0, by rw [e1]; exact h.st1, by rw [e2]; exact h.h0, by rw [e2]; exact h.h1, by rw [e3]; exact h.f0, by rw [e3, e2]; exact h.f1, by rw [e4]; exact h.s0, by rw [e5]; exact h.m0, by rw [e4, e5, e2]; exact h.sm, by rw [e6]; exact h.a0, by rw [e6]; exact h.a1⟩
theorem inv_of {b : Box} {need : Int} {n : Nat} {x y : Sv} (h : Inv b need n x) (e1 : y.state = x.state) (e2 : y.hour = x.hour) (e3 : y.foggy = x.foggy) (e4 : y.sounded = x.sounded) (e5 : y.missed = x.missed) (e6 : y.air = x.air)
    (f1 : y.stock = x.stock) (f2 : y.amount = x.amount) (f3 : y.used = x.used) (f4 : y.pumped = x.pumped) (f5 : y.stocked = x.stocked) : Inv b need n y :=
  ⟨fine_of h.fine e1 e2 e3 e4 e5 e6, rich_of h.rich f1 f2 f3 f4 f5, by rw [f4, e6, e4]; exact h.air, by rw [f5, f1, f3]; exact h.stk⟩
theorem fire_inv {b : Box} {need : Int} {w : List Int} {n : Nat} {x : Sv} (h : Inv b need n x) (c : Nat) : Inv b need (n + 1) (fireF w c x).2 := by
  have hm := inv_mono h (Nat.le_succ n)
  unfold fireF
  refine pickP (fun _ => hm) fun h1 => pickP (fun _ => hm) fun h2 => pickP (fun _ => hm) fun h3 => ?_
  have hr := tabF_rng w c c
  obtain ⟨v, hv⟩ : ∃ v, v = (tabF w c).getD c 0 := ⟨_, rfl⟩
  rw [← hv] at h2 h3 hr ⊢
  have q := h.rich
  have c0 := q.c0; have c1 := q.c1; have m0 := q.m0; have m1 := q.m1; have u0 := q.u0; have u1 := q.u1; have p0 := q.p0; have p1 := q.p1; have k0 := q.k0; have k1 := q.k1
  have hs := h.stk
  refine ⟨fine_of hm.fine rfl rfl rfl rfl rfl rfl, ⟨?_, ?_, ?_, ?_, ?_, ?_, ?_, ?_, ?_, ?_⟩, h.air, ?_⟩
  · show 0 ≤ x.stock - v; omega
  · show x.stock - v ≤ 500; omega
  · show 0 ≤ x.amount + c; omega
  · show x.amount + c ≤ ((10000 * (n + 1) : Nat) : Int); omega
  · show 0 ≤ x.used + v; omega
  · show x.used + v ≤ ((10000 * (n + 1) : Nat) : Int); omega
  · exact p0
  · show x.pumped ≤ ((10000 * (n + 1) : Nat) : Int); omega
  · exact k0
  · show x.stocked ≤ ((10000 * (n + 1) : Nat) : Int); omega
  · show x.stocked = x.stock - v + (x.used + v); omega
theorem exe_inv {t w : List Int} {b : Box} (K : RKit t w b) {n : Nat} {x : Sv} (h : Inv b (needF t) n x) (k : Int) (c : Nat) (hc : c ≤ 9999) : Inv b (needF t) (n + 1) (exeF w b (needF t) k c x).2 := by
  have hm := inv_mono h (Nat.le_succ n)
  have q := h.rich
  have c0 := q.c0; have c1 := q.c1; have m0 := q.m0; have m1 := q.m1; have u0 := q.u0; have u1 := q.u1; have p0 := q.p0; have p1 := q.p1; have k0 := q.k0; have k1 := q.k1
  have hs := h.stk
  have ha := h.air
  have f := h.fine
  have a0 := f.a0; have a1 := f.a1; have h0 := f.h0; have h1 := f.h1
  unfold exeF
  refine pickP (fun _ => pickP (fun _ => hm) fun _ => inv_of hm rfl rfl rfl rfl rfl rfl rfl rfl rfl rfl rfl) fun _ =>
    pickP (fun _ => pickP (fun _ => inv_of hm rfl rfl rfl rfl rfl rfl rfl rfl rfl rfl rfl) fun _ => hm) fun _ =>
    pickP (fun _ => pickP (fun _ => hm) fun _ => pickP (fun _ => hm) fun e => ?_) fun _ =>
    pickP (fun _ => pickP (fun _ => hm) fun e => ?_) fun _ =>
    pickP (fun _ => pickP (fun _ => hm) fun _ => pickP (fun _ => hm) fun e => ?_) fun _ =>
    pickP (fun _ => fire_inv h c) fun _ => pickP (fun _ => hm) fun e => pickP (fun _ => hm) fun _ => ?_
  · refine ⟨⟨f.st0, f.st1, f.h0, ?_, f.f0, f.f1, f.s0, f.m0, f.sm, ?_, ?_⟩, ⟨c0, c1, m0, ?_, u0, ?_, ?_, ?_, k0, ?_⟩, ?_, hs⟩
    · show x.hour ≤ ((99 * (n + 1) : Nat) : Int); omega
    · show 0 ≤ x.air + c; omega
    · show x.air + c ≤ 500; omega
    · show x.amount ≤ ((10000 * (n + 1) : Nat) : Int); omega
    · show x.used ≤ ((10000 * (n + 1) : Nat) : Int); omega
    · show 0 ≤ x.pumped + c; omega
    · show x.pumped + c ≤ ((10000 * (n + 1) : Nat) : Int); omega
    · show x.stocked ≤ ((10000 * (n + 1) : Nat) : Int); omega
    · show x.pumped + c = x.air + c + x.sounded * needF t; omega
  · obtain ⟨r1, r2, r3, r4, r5, r6⟩ := hours_rest b (needF t) c x
    refine ⟨fine_mono (fine_hours K.hb K.ht c f) (by omega), rich_of hm.rich r1 r2 r3 r4 r5, ?_, ?_⟩
    · rw [r4, r6]; exact ha
    · rw [r5, r1, r3]; exact hs
  · refine ⟨fine_of hm.fine rfl rfl rfl rfl rfl rfl, ⟨?_, ?_, m0, ?_, u0, ?_, p0, ?_, ?_, ?_⟩, ha, ?_⟩
    · show 0 ≤ x.stock + c; omega
    · show x.stock + c ≤ 500; omega
    · show x.amount ≤ ((10000 * (n + 1) : Nat) : Int); omega
    · show x.used ≤ ((10000 * (n + 1) : Nat) : Int); omega
    · show x.pumped ≤ ((10000 * (n + 1) : Nat) : Int); omega
    · show 0 ≤ x.stocked + c; omega
    · show x.stocked + c ≤ ((10000 * (n + 1) : Nat) : Int); omega
    · show x.stocked + c = x.stock + c + x.used; omega
  · obtain ⟨-, hb2, -⟩ := box_of K.hb
    have g := hm.fine
    refine ⟨⟨?_, ?_, g.h0, g.h1, g.f0, g.f1, g.s0, g.m0, g.sm, g.a0, g.a1⟩, rich_of hm.rich rfl rfl rfl rfl rfl, ha, hs⟩
    · show 0 ≤ (c : Int); omega
    · show (c : Int) < (b.1.length : Int); omega
/-- An error is no negative number. -/
theorem pickN {c : Prop} [Decidable c] {a b : Int × Sv} (ha : 0 ≤ a.1) (hb : 0 ≤ b.1) : 0 ≤ (if c then a else b).1 := by
  split
  · exact ha
  · exact hb
theorem fire_nonneg (w : List Int) (n : Nat) (x : Sv) : 0 ≤ (fireF w n x).1 := by
  unfold fireF
  exact pickN (by dsimp only; decide) (pickN (by dsimp only; decide) (pickN (by dsimp only; decide) (Int.le_refl 0)))
theorem exe_nonneg (w : List Int) (b : Box) (need k : Int) (n : Nat) (x : Sv) : 0 ≤ (exeF w b need k n x).1 := by
  unfold exeF
  exact pickN (pickN (by dsimp only; decide) (Int.le_refl 0)) (pickN (pickN (Int.le_refl 0) (by dsimp only; decide)) (pickN (pickN (by dsimp only; decide) (pickN (by dsimp only; decide) (Int.le_refl 0))) (pickN (pickN (by dsimp only; decide) (Int.le_refl 0))
    (pickN (pickN (by dsimp only; decide) (pickN (by dsimp only; decide) (Int.le_refl 0))) (pickN (fire_nonneg w n x) (pickN (by dsimp only; decide) (pickN (by dsimp only; decide) (Int.le_refl 0))))))))

theorem kind_bytes {h : ByteArray} {k : Int} {w : Bool} (e : kindF h = some (k, w)) : ∀ c ∈ by_ h, c ≠ 10 := by
  unfold kindF at e
  repeat (split at e; · rename_i hh; rw [hh]; decide)
  cases e
theorem num_bytes {l : List UInt8} {n : Nat} (h : numF l = some n) : ∀ c ∈ l, c ≠ 10 := by
  obtain ⟨h1, -⟩ := numF_digits h
  intro c hc e
  rw [← h1] at hc
  have := digit_rng _ _ hc
  rw [e] at this
  exact absurd this.1 (by decide)
theorem parse_text {x : ByteArray} {p : Int × Int} (e : parseF x = some p) : okText (by_ x) = true := by
  have hp : parseF x = match kindF (headF x) with
      | none => none
      | some (k, w) => if 40 < x.size ∨ decide (fi 32 (by_ x) < (by_ x).length) ≠ w then none else if w = false then some (k, 0) else (numF ((by_ x).drop (fi 32 (by_ x) + 1))).map fun n : Nat => (k, (n : Int)) := rfl
  rw [hp] at e
  cases hk : kindF (headF x) with
  | none => rw [hk] at e; cases e
  | some q =>
    obtain ⟨k, w⟩ := q
    rw [hk] at e
    have e : (if 40 < x.size ∨ decide (fi 32 (by_ x) < (by_ x).length) ≠ w then none else if w = false then some (k, 0) else (numF ((by_ x).drop (fi 32 (by_ x) + 1))).map fun n : Nat => (k, (n : Int))) = some p := e
    have hb := kind_bytes hk
    have hb : ∀ c ∈ (by_ x).take (fi 32 (by_ x)), c ≠ 10 := hb
    have hpos := kind_pos hk
    have hpos : 0 < ((by_ x).take (fi 32 (by_ x))).length := hpos
    split at e
    · cases e
    · rename_i hc
      have h40 : x.size ≤ 40 := by
        by_cases h : 40 < x.size
        · exact absurd (.inl h) hc
        · omega
      have hw : decide (fi 32 (by_ x) < (by_ x).length) = w := by
        by_cases h : decide (fi 32 (by_ x) < (by_ x).length) = w
        · exact h
        · exact absurd (.inr h) hc
      have h1 : 1 ≤ (by_ x).length := by rw [List.length_take] at hpos; omega
      have hno : ∀ c ∈ by_ x, c ≠ 10 := by
        by_cases hlt : fi 32 (by_ x) < (by_ x).length
        · have hw2 : w = true := by rw [← hw]; exact decide_eq_true hlt
          subst hw2
          rw [if_neg (by decide)] at e
          cases hn : numF ((by_ x).drop (fi 32 (by_ x) + 1)) with
          | none => rw [hn] at e; cases e
          | some n =>
            have hd := num_bytes hn
            intro c hcm
            rw [← List.take_append_drop (fi 32 (by_ x)) (by_ x), List.mem_append] at hcm
            rcases hcm with hcm | hcm
            · exact hb c hcm
            · rw [drop_getD 0 hlt, List.mem_cons] at hcm
              rcases hcm with hcm | hcm
              · rw [fi_at 32 (by_ x) hlt] at hcm
                rw [hcm]; decide
              · exact hd c hcm
        · rw [List.take_of_length_le (by omega)] at hb
          exact hb
      unfold okText
      have h10 : (by_ x).contains 10 = false := by
        rw [← Bool.not_eq_true, List.contains_iff_mem]
        exact fun hm => hno 10 hm rfl
      rw [h10, decide_eq_true h1, decide_eq_true (show (by_ x).length ≤ 40 from h40)]
      rfl
def zeroS : Sv := ⟨0, false, 0, 0, 0, 0, 0, 0, 0, 0, 0, 0, []⟩
theorem zero_inv {t w : List Int} {b : Box} (K : RKit t w b) (n : Nat) : Inv b (needF t) n zeroS := by
  obtain ⟨hb1, -, -⟩ := box_of K.hb
  have h0 : (0 : Int) ≤ ((99 * n : Nat) : Int) := by omega
  have h1 : (0 : Int) ≤ ((10000 * n : Nat) : Int) := by omega
  refine ⟨⟨Int.le_refl 0, ?_, Int.le_refl 0, h0, Int.le_refl 0, Int.le_refl 0, Int.le_refl 0, Int.le_refl 0, by decide, Int.le_refl 0, by decide⟩,
    ⟨Int.le_refl 0, by decide, Int.le_refl 0, h1, Int.le_refl 0, h1, Int.le_refl 0, h1, Int.le_refl 0, h1⟩, ?_, rfl⟩
  · show (0 : Int) < (b.1.length : Int); omega
  · show (0 : Int) = 0 + 0 * needF t; omega
theorem do_inv {t w : List Int} {b : Box} (K : RKit t w b) {n : Nat} {x : Sv} (h : Inv b (needF t) n x) (o : ByteArray) : Inv b (needF t) (n + 1) (doF w b (needF t) o x).2 := by
  have hm := inv_mono h (Nat.le_succ n)
  unfold doF
  cases hp : parseF o with
  | none => exact hm
  | some p =>
    obtain ⟨k, c⟩ := p
    obtain ⟨-, -, m, rfl, hc⟩ := parse_rng hp
    refine pickP (fun _ => hm) fun _ => pickP (fun _ => ?_) fun _ => hm
    have := exe_inv K h k m hc
    exact inv_of this rfl rfl rfl rfl rfl rfl rfl rfl rfl rfl rfl
theorem do_err {w : List Int} {b : Box} {need : Int} {o : ByteArray} {x : Sv} (h : (doF w b need o x).1 ≠ 0) : (doF w b need o x).2 = x := by
  unfold doF at h ⊢
  cases hp : parseF o with
  | none => rfl
  | some p =>
    obtain ⟨k, c⟩ := p
    rw [hp] at h
    revert h
    show (if 100 ≤ x.orders.length then _ else _ : Int × Sv).1 ≠ 0 → (if 100 ≤ x.orders.length then _ else _ : Int × Sv).2 = x
    by_cases h1 : 100 ≤ x.orders.length
    · rw [if_pos h1]; intro _; rfl
    · rw [if_neg h1]
      by_cases h2 : (exeF w b need k c.toNat x).1 = 0
      · rw [if_pos h2]; intro h; exact absurd rfl h
      · rw [if_neg h2]; intro _; rfl
theorem do_ok {w : List Int} {b : Box} {need : Int} {o : ByteArray} {x : Sv} (h : (doF w b need o x).1 = 0) : (doF w b need o x).2.orders = x.orders ++ [o] ∧ okText (by_ o) = true ∧ x.orders.length < 100 := by
  unfold doF at h ⊢
  cases hp : parseF o with
  | none => rw [hp] at h; cases h
  | some p =>
    have ht := parse_text hp
    obtain ⟨k, c⟩ := p
    rw [hp] at h
    revert h
    show (if 100 ≤ x.orders.length then _ else _ : Int × Sv).1 = 0 → (if 100 ≤ x.orders.length then _ else _ : Int × Sv).2.orders = _ ∧ _
    by_cases h1 : 100 ≤ x.orders.length
    · rw [if_pos h1]; intro h; cases h
    · rw [if_neg h1]
      by_cases h2 : (exeF w b need k c.toNat x).1 = 0
      · rw [if_pos h2]; intro _
        refine ⟨?_, ht, by omega⟩
        show (exeF w b need k c.toNat x).2.orders ++ [o] = _
        rw [exe_orders]
      · rw [if_neg h2]; intro h; exact absurd h h2
theorem do_nonneg (w : List Int) (b : Box) (need : Int) (o : ByteArray) (x : Sv) : 0 ≤ (doF w b need o x).1 := by
  unfold doF
  cases hp : parseF o with
  | none => show (0 : Int) ≤ 2; decide
  | some p =>
    obtain ⟨k, c⟩ := p
    exact pickN (by dsimp only; decide) (pickN (Int.le_refl 0) (exe_nonneg w b need k c.toNat x))

/-- Orders that are all taken, one after another. -/
noncomputable def stepsF (w : List Int) (b : Box) (need : Int) : List ByteArray → Sv → Option Sv
  | [], x => some x
  | o :: r, x => if (doF w b need o x).1 = 0 then stepsF w b need r (doF w b need o x).2 else none
theorem steps_app (w : List Int) (b : Box) (need : Int) : ∀ (l m : List ByteArray) (x : Sv), stepsF w b need (l ++ m) x = (stepsF w b need l x).bind (stepsF w b need m)
  | [], m, x => rfl
  | o :: r, m, x => by
    show (if (doF w b need o x).1 = 0 then stepsF w b need (r ++ m) (doF w b need o x).2 else none) = (if (doF w b need o x).1 = 0 then stepsF w b need r (doF w b need o x).2 else none).bind _
    by_cases h : (doF w b need o x).1 = 0
    · rw [if_pos h, if_pos h]; exact steps_app w b need r m _
    · rw [if_neg h, if_neg h]; rfl
theorem steps_inv {t w : List Int} {b : Box} (K : RKit t w b) : ∀ {l : List ByteArray} {n : Nat} {x y : Sv}, stepsF w b (needF t) l x = some y → Inv b (needF t) n x → Inv b (needF t) (n + l.length) y
  | [], n, x, y, h, hx => by cases h; exact hx
  | o :: r, n, x, y, h, hx => by
    have h : (if (doF w b (needF t) o x).1 = 0 then stepsF w b (needF t) r (doF w b (needF t) o x).2 else none) = some y := h
    by_cases e : (doF w b (needF t) o x).1 = 0
    · rw [if_pos e] at h
      have := steps_inv K h (do_inv K hx o)
      rw [List.length_cons, show n + (r.length + 1) = n + 1 + r.length by omega]
      exact this
    · rw [if_neg e] at h; cases h
theorem steps_text {w : List Int} {b : Box} {need : Int} : ∀ {l : List ByteArray} {x y : Sv}, stepsF w b need l x = some y → (∀ o ∈ l, okText (by_ o) = true) ∧ (x.orders.length ≤ 100 → y.orders.length ≤ 100)
  | [], x, y, h => by cases h; exact ⟨fun o ho => (by cases ho), id⟩
  | o :: r, x, y, h => by
    have h : (if (doF w b need o x).1 = 0 then stepsF w b need r (doF w b need o x).2 else none) = some y := h
    by_cases e : (doF w b need o x).1 = 0
    · rw [if_pos e] at h
      obtain ⟨i1, i2⟩ := steps_text h
      obtain ⟨d1, d2, d3⟩ := do_ok e
      refine ⟨fun a ha => ?_, fun _ => i2 (by rw [d1]; simp; omega)⟩
      rcases List.mem_cons.1 ha with rfl | ha
      · exact d2
      · exact i1 a ha
    · rw [if_neg e] at h; cases h

/-- A state that orders lead to, from nothing. -/
def Reach (w : List Int) (b : Box) (need : Int) (x : Sv) : Prop := stepsF w b need x.orders zeroS = some x
theorem reach_zero (w : List Int) (b : Box) (need : Int) : Reach w b need zeroS := rfl
theorem reach_do {w : List Int} {b : Box} {need : Int} {x : Sv} (h : Reach w b need x) (o : ByteArray) : Reach w b need (doF w b need o x).2 := by
  by_cases e : (doF w b need o x).1 = 0
  · obtain ⟨d1, -, -⟩ := do_ok e
    unfold Reach
    rw [d1, steps_app, h]
    show (if (doF w b need o x).1 = 0 then some (doF w b need o x).2 else none) = _
    rw [if_pos e]
  · rw [do_err e]; exact h
theorem reach_inv {t w : List Int} {b : Box} (K : RKit t w b) {x : Sv} (h : Reach w b (needF t) x) : Inv b (needF t) x.orders.length x := by
  have := steps_inv K h (zero_inv K 0)
  rw [Nat.zero_add] at this
  exact this
theorem reach_text {w : List Int} {b : Box} {need : Int} {x : Sv} (h : Reach w b need x) : (∀ o ∈ x.orders, okText (by_ o) = true) ∧ x.orders.length ≤ 100 := by
  obtain ⟨h1, h2⟩ := steps_text h
  exact ⟨h1, h2 (Nat.zero_le _)⟩
theorem text_size {o : ByteArray} (h : okText (by_ o) = true) : o.size ≤ 40 := by
  unfold okText at h
  simp only [Bool.and_eq_true, decide_eq_true_eq] at h
  exact h.1.2
theorem peta {α β : Type} (p : α × β) : (p.1, p.2) = p := rfl
theorem do31 {t w : List Int} {b : Box} (K : RKit t w b) (m : Int) {x : Sv} (h : Reach w b (needF t) x) (o : ByteArray) (ho : o.size ≤ 9223372036854775807) :
    implf31a KK (stnOf (0, m) t w b x) o = some ((doF w b (needF t) o x).1, stnOf (0, m) t w b (doF w b (needF t) o x).2) := by
  have hi := reach_inv K h
  have hl := (reach_text h).2
  have hd := do73 (1, m) t w b K.ht K.hw K.hb (by omega) (by omega) hi.fine hi.rich (fun k n => exe_orders w b (needF t) k n x) o ho
  have hn := do_nonneg w b (needF t) o x
  unfold implf31a
  show (if (0 : Int) = 0 then ob (implf73 KK (stnOf (1, m) t w b x) o) _ else none) = _
  rw [if_pos rfl, hd]
  show (if 0 ≤ (doF w b (needF t) o x).1 ∧ (1 : Int) = 1 then _ else none) = _
  rw [if_pos ⟨hn, rfl⟩]
  rfl
theorem do40' {t w : List Int} {b : Box} (K : RKit t w b) {x : Sv} (h : Reach w b (needF t) x) (o : ByteArray) (ho : o.size ≤ 100000) :
    implf40 KK (refOf w b (needF t) x) o = some ((doF w b (needF t) o x).1, refOf w b (needF t) (doF w b (needF t) o x).2) := by
  have hi := reach_inv K h
  have hl := (reach_text h).2
  exact do40 t w b K.ht K.hw K.hb (by omega) (by omega) hi.fine hi.rich o ho
/-- The book of a list of orders. -/
def bookB (l : List ByteArray) : ByteArray := ⟨(textF 0 (l.map by_)).toArray⟩
theorem by_book (l : List ByteArray) : by_ (bookB l) = textF 0 (l.map by_) := rfl
theorem book_size {l : List ByteArray} (h : ∀ o ∈ l, okText (by_ o) = true) (hn : l.length ≤ 100) : (bookB l).size ≤ 6000 := by
  have hlen := textF_len (l.map by_) 0 (by
    intro o ho
    obtain ⟨a, ha, rfl⟩ := List.mem_map.1 ho
    exact h a ha)
  rw [List.length_map, ← by_book, by_len] at hlen
  omega
theorem write67' {l : List ByteArray} (h : ∀ o ∈ l, okText (by_ o) = true) (hn : l.length ≤ 1000) : implf67 KK l = some (bookB l) :=
  write67 l (fun o ho => by have := text_size (h o ho); omega) hn
theorem write53' {l : List ByteArray} (h : ∀ o ∈ l, okText (by_ o) = true) (hn : l.length ≤ 1000) : implf53 KK l = some (bookB l) :=
  write53 l (fun o ho => by have := text_size (h o ho); omega) hn
theorem look68 (t w : List Int) (b : Box) (m : Int) (x : Sv) : implf68a KK (stnOf (0, m) t w b x) = some (stOf x) := rfl
theorem book21 {t w : List Int} {b : Box} (m : Int) {need : Int} {x : Sv} (h : Reach w b need x) : implf21a KK (stnOf (0, m) t w b x) = some (bookB x.orders) := by
  obtain ⟨h1, h2⟩ := reach_text h
  unfold implf21a
  rw [look68]
  show ob (implf67 KK x.orders) _ = _
  rw [write67' h1 (by omega)]; rfl
theorem stock33 (t w : List Int) (b : Box) (m : Int) (x : Sv) : implf33a KK (stnOf (0, m) t w b x) = some x.stock := rfl
theorem fired34 (t w : List Int) (b : Box) (m : Int) (x : Sv) : implf34a KK (stnOf (0, m) t w b x) = some (x.amount, x.used) := rfl
theorem air37 (t w : List Int) (b : Box) (m : Int) (x : Sv) : implf37a KK (stnOf (0, m) t w b x) = some x.air := rfl
theorem sounded38 (t w : List Int) (b : Box) (m : Int) (x : Sv) : implf38a KK (stnOf (0, m) t w b x) = some x.sounded := rfl
theorem hour56 (t w : List Int) (b : Box) (m : Int) (x : Sv) : implf56a KK (stnOf (0, m) t w b x) = some x.hour := rfl
theorem state57 (t w : List Int) (b : Box) (m : Int) (x : Sv) : implf57a KK (stnOf (0, m) t w b x) = some x.state := rfl
theorem foggy58 (t w : List Int) (b : Box) (m : Int) (x : Sv) : implf58a KK (stnOf (0, m) t w b x) = some x.foggy := rfl
theorem missed59 (t w : List Int) (b : Box) (m : Int) (x : Sv) : implf59a KK (stnOf (0, m) t w b x) = some x.missed := rfl
theorem fog60 (t w : List Int) (b : Box) (m : Int) (x : Sv) : implf60a KK (stnOf (0, m) t w b x) = some x.fog := rfl
theorem equal41 {t w : List Int} {b : Box} (m : Int) {need : Int} {x : Sv} (h : Reach w b need x) : implf41 KK (stnOf (0, m) t w b x) (refOf w b need x) = some (true, refOf w b need x) := by
  obtain ⟨h1, h2⟩ := reach_text h
  unfold implf41
  rw [fired34, hour56, fog60, state57, air37, stock33, foggy58, sounded38, missed59, book21 m h]
  have e53 : implf53 KK (refOf w b need x).2.2.2.2.2.2.2.2.2.2.2.2.2 = some (bookB x.orders) := write53' (l := x.orders) h1 (by omega)
  rw [e53]
  simp only [obS, refOf, beq_self_eq_true, cond_true]

abbrev KitT : Type := List Int × List Int × List (List Int) × List Int
def isLarge (k : KitT) : Prop := 100 < k.1.length ∨ 50 < k.2.1.length ∨ 50 < k.2.2.1.length ∨ 50 < k.2.2.2.length
instance (k : KitT) : Decidable (isLarge k) := by unfold isLarge; infer_instance
theorem large25 (K : Nat) (k : KitT) : implf25 K k = some (decide (isLarge k)) := by
  unfold implf25
  rw [cdec, cdec, cdec]
  by_cases h1 : 100 < k.1.length
  · rw [if_pos (by omega), decide_eq_true (show isLarge k from .inl h1)]
  · rw [if_neg (by omega)]
    by_cases h2 : 50 < k.2.1.length
    · rw [if_pos (by omega), decide_eq_true (show isLarge k from .inr (.inl h2))]
    · rw [if_neg (by omega)]
      by_cases h3 : 50 < k.2.2.1.length
      · rw [if_pos (by omega), decide_eq_true (show isLarge k from .inr (.inr (.inl h3)))]
      · rw [if_neg (by omega)]
        by_cases h4 : 50 < k.2.2.2.length
        · rw [decide_eq_true (show ((k.2.2.2.length : Nat) : Int) > 50 by omega), decide_eq_true (show isLarge k from .inr (.inr (.inr h4)))]
        · rw [decide_eq_false (show ¬ ((k.2.2.2.length : Nat) : Int) > 50 by omega), decide_eq_false (show ¬ isLarge k from fun h => by rcases h with h | h | h | h <;> omega)]
theorem small_of {k : KitT} (h : ¬ isLarge k) : k.1.length ≤ 100 ∧ k.2.1.length ≤ 50 ∧ k.2.2.1.length ≤ 50 ∧ k.2.2.2.length ≤ 50 := by
  unfold isLarge at h
  omega
noncomputable def errOf (k : KitT) : Int := kitErr k.1 k.2.1 k.2.2
theorem s50a {k : KitT} (h : ¬ isLarge k) : implf50a KK k.1 k.2.1 k.2.2 = if errOf k = 0 then none else some ((), errOf k) := by
  obtain ⟨h1, h2, h3, h4⟩ := small_of h
  exact new50a k.1 k.2.1 k.2.2 h1 h2 h3 h4
theorem s50b {k : KitT} (h : ¬ isLarge k) : implf50b KK k.1 k.2.1 k.2.2 = if errOf k = 0 then some (stnOf (0, 0) k.1 k.2.1 k.2.2 zeroS, 0) else none := by
  obtain ⟨h1, h2, h3, h4⟩ := small_of h
  exact new50b k.1 k.2.1 k.2.2 h1 h2 h3 h4
theorem s43a {k : KitT} (h : ¬ isLarge k) : implf43a KK k.1 k.2.1 k.2.2 = if errOf k = 0 then none else some ((), errOf k) := by
  obtain ⟨h1, h2, h3, h4⟩ := small_of h
  exact new43a k.1 k.2.1 k.2.2 h1 h2 h3 h4
theorem s43b {k : KitT} (h : ¬ isLarge k) : implf43b KK k.1 k.2.1 k.2.2 = if errOf k = 0 then some (refOf k.2.1 k.2.2 (needF k.1) zeroS, 0) else none := by
  obtain ⟨h1, h2, h3, h4⟩ := small_of h
  exact new43b k.1 k.2.1 k.2.2 h1 h2 h3 h4
theorem failed29 {k : KitT} (h : ¬ isLarge k) (he : errOf k ≠ 0) : implf29 KK k = some true := by
  have hs := sane
  unfold implf29
  rw [s50a h, s50b h, s43a h, s43b h, if_neg he, if_neg he]
  show (bif errOf k == errOf k then (bif errOf k != 0 then _ else _) else _) = _
  rw [ibeq, ibne, decide_eq_true rfl, decide_eq_false he, hs]
  rfl
theorem few30 {l : List ByteArray} (h : l.length ≤ 1000) : implf30 KK l = some (l.take 40) := by
  unfold implf30
  rw [cdec]
  by_cases h1 : (l.length : Int) > 40
  · rw [if_pos h1, if_pos (by omega), if_pos (by simp; omega)]
    simp
  · rw [if_neg h1, List.take_of_length_le (by omega)]
theorem few_size {l : List ByteArray} (h : ∀ o ∈ l, o.size ≤ 400) (n : Nat) : ∀ o ∈ l.take n, o.size ≤ 400 := fun o ho => h o (List.mem_of_mem_take ho)
theorem rdStep_eq {l : List UInt8} {s : Int} {o r : List UInt8} {s' : Int} (h : rdStep l s = some (o, r, s')) : l = lineF s o ++ r ∧ okText o = true ∧ s' = sumF s o := by
  simp only [rdStep] at h
  split at h
  · rename_i hc
    obtain ⟨h1, h2, h3, h4⟩ := hc
    obtain ⟨e, he⟩ : ∃ e, e = fi 10 l := ⟨_, rfl⟩
    have a1 := fi_at 10 l h1
    rw [← he] at h h1 h2 h3 h4 a1
    obtain ⟨t, ht⟩ : ∃ t, t = l.take e := ⟨_, rfl⟩
    have htl : t.length = e := by rw [ht, List.length_take]; omega
    rw [← ht] at h h2 h3 h4
    have a2 := fi_at 32 t (by rw [htl]; exact h2)
    have h2' : fi 32 t < t.length := by rw [htl]; exact h2
    cases h
    refine ⟨?_, h3, rfl⟩
    unfold lineF
    rw [h4]
    have e1 : l = t ++ 10 :: l.drop (e + 1) := by
      conv => lhs; rw [← List.take_append_drop e l]
      rw [drop_getD 0 h1, a1, ht]
    have e2 : t = t.take (fi 32 t) ++ 32 :: t.drop (fi 32 t + 1) := by
      conv => lhs; rw [← List.take_append_drop (fi 32 t) t]
      rw [drop_getD 0 h2', a2]
    conv => lhs; rw [e1, e2]
    simp
  · cases h
theorem rdL_text : ∀ (k : Nat) (x : ByteArray) (acc : List ByteArray) (s : Int) (y : ByteArray × List ByteArray × Int × Unit), rdL k x acc s = some y →
    ∃ m : List ByteArray, y.2.1 = acc ++ m ∧ (∀ o ∈ m, okText (by_ o) = true) ∧ by_ x = textF s (m.map by_) ++ by_ y.1
  | 0, _, _, _, _, h => by cases h
  | k + 1, x, acc, s, y, h => by
    have h : rdB (rdL k) x acc s = some y := h
    unfold rdB at h
    split at h
    · split at h
      · cases h
        exact ⟨[], by simp, fun o ho => (by cases ho), by simp [textF]⟩
      · rename_i o r s' hr
        obtain ⟨r1, r2, r3⟩ := rdStep_eq hr
        obtain ⟨m, m1, m2, m3⟩ := rdL_text k _ _ _ _ h
        refine ⟨⟨o.toArray⟩ :: m, by rw [m1]; simp, fun a ha => ?_, ?_⟩
        · rcases List.mem_cons.1 ha with rfl | ha
          · exact r2
          · exact m2 a ha
        · rw [r1]
          have m3 : r = textF s' (m.map by_) ++ by_ y.1 := m3
          rw [m3, r3, List.map_cons, by_mk o]
          simp [textF]
    · cases h
      exact ⟨[], by simp, fun o ho => (by cases ho), by simp [textF]⟩
theorem read_all (x : ByteArray) (hx : x.size ≤ 100000) : ∃ (l : List ByteArray) (rest : ByteArray), implf19 KK x = some (l, rest) ∧ implf44 KK x = some (l, rest) ∧ l.length ≤ 100 ∧ (∀ o ∈ l, okText (by_ o) = true) ∧ by_ x = textF 0 (l.map by_) ++ by_ rest := by
  obtain ⟨y, e, hy⟩ := rdL_some KK x [] 0 (by simp) (by show 100 < 1000000 + 0; omega)
  obtain ⟨m, m1, m2, m3⟩ := rdL_text _ _ _ _ _ e
  rw [List.nil_append] at m1
  refine ⟨y.2.1, y.1, ?_, ?_, hy, by rw [m1]; exact m2, by rw [m1]; exact m3⟩
  · unfold implf19; rw [eq19 _ _ _ _ hx, e]; rfl
  · unfold implf44; rw [eq44 _ _ _ _ hx, e]; rfl
theorem read_book {l : List ByteArray} (hl : ∀ o ∈ l, okText (by_ o) = true) (hn : l.length ≤ 100) : implf19 KK (bookB l) = some (l, ByteArray.mk #[]) ∧ implf44 KK (bookB l) = some (l, ByteArray.mk #[]) := by
  obtain ⟨j, rest, e, -, -, h5⟩ := read19 l hl hn (bookB l) [] (by rw [by_book]; simp)
  obtain ⟨rfl, rfl⟩ := h5 rfl
  rw [List.take_length] at e
  obtain ⟨l', rest', e1, e2, -⟩ := read_all (bookB l) (by have := book_size hl hn; omega)
  have := e.symm.trans e1
  rw [← this] at e1
  exact ⟨e, e2.trans this.symm⟩

theorem oelN {α R : Type} (a : Option R) (f : α → Option R) : oel none a f = a := rfl
theorem oelS {α R : Type} (x : α) (a : Option R) (f : α → Option R) : oel (some x) a f = f x := rfl
theorem large_front (K : Nat) {k : KitT} (h : isLarge k) {f : Bool → Option Bool} : ob (implf25 (K + 60) k) (fun y1 => bif y1 then ob (implf27 (K + 60)) (fun y2 => some y2) else f y1) = some true := by
  rw [large25, decide_eq_true h, saneK]; rfl
end Go.Proofs.YtbpjodikknbcoaaGreatDoor
