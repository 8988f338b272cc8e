/- The mathematics of stations, part 5. -/
import Derived.Test.YtbpjodikknbcoaaGreatDoorMt4
import Derived.Lib.IndexBytes
import Derived.Lib.ItoaNum
import Derived.Lib.AtoiAll
import Derived.Lib.AtoiTie
import Derived.KernelRfl
import Derived.Lib.AtoiAllCases
set_option maxRecDepth 1000000
set_option linter.unusedVariables false
set_option linter.unusedSimpArgs false
namespace Go.Proofs.YtbpjodikknbcoaaGreatDoor
open Go Go.Pv
theorem kind_rng {h : ByteArray} {k : Int} {w : Bool} (e : kindF h = some (k, w)) : 0 ≤ k ∧ k ≤ 6 := by
  unfold kindF at e
  repeat (split at e; · cases e; decide)
  cases e
theorem parse_rng {x : ByteArray} {k n : Int} (e : parseF x = some (k, n)) : (∃ w, kindF (headF x) = some (k, w)) ∧ (0 ≤ k ∧ k ≤ 6) ∧ ∃ m : Nat, n = (m : Int) ∧ m ≤ 9999 := by
  have hp : parseF x = match kindF (headF x) with
      | none => none
      | some (k, w) => if 40 < x.size ∨ decide (fi 32 (by_ x) < (by_ x).length) ≠ w then none else if w = false then some (k, 0) else (numF ((by_ x).drop (fi 32 (by_ x) + 1))).map fun n : Nat => (k, (n : Int)) := rfl
  rw [hp] at e
  cases hk : kindF (headF x) with
  | none => rw [hk] at e; cases e
  | some p =>
    obtain ⟨k', w⟩ := p
    rw [hk] at e
    have e : (if 40 < x.size ∨ decide (fi 32 (by_ x) < (by_ x).length) ≠ w then none else if w = false then some (k', 0) else (numF ((by_ x).drop (fi 32 (by_ x) + 1))).map fun n : Nat => (k', (n : Int))) = some (k, n) := e
    have hr := kind_rng hk
    split at e
    · cases e
    · split at e
      · cases e
        exact ⟨⟨w, rfl⟩, hr, 0, rfl, by omega⟩
      · cases hn : numF ((by_ x).drop (fi 32 (by_ x) + 1)) with
        | none => rw [hn] at e; cases e
        | some m =>
          rw [hn] at e
          cases e
          exact ⟨⟨w, rfl⟩, hr, m, rfl, (atoi_same hn).2.2⟩
/-- What an order's text does: an error, and what is then. -/
noncomputable def doF (w : List Int) (b : Box) (need : Int) (text : ByteArray) (x : Sv) : Int × Sv :=
  match parseF text with
  | none => (2, x)
  | some (k, n) => if 100 ≤ x.orders.length then (3, x) else if (exeF w b need k n.toNat x).1 = 0 then (0, { (exeF w b need k n.toNat x).2 with orders := (exeF w b need k n.toNat x).2.orders ++ [text] }) else ((exeF w b need k n.toNat x).1, x)
theorem clone104 (l : List ByteArray) (h : l.length ≤ 1000) : implf104 KK l = some l := by
  unfold implf104
  rw [if_pos (by simp; omega)]; simp
theorem do73 (m : Int × Int) (t w : List Int) (b : Box) (ht : vTone t = 0) (hw : vWeights w = 0) (hb : vBox b = 0) {N M : Nat} (hN : N ≤ 90000000) (hM : M ≤ 900000000) {x : Sv} (hx : Fine b N x) (hy : Rich M x) (ho : ∀ k n, (exeF w b (needF t) k n x).2.orders = x.orders) (text : ByteArray) (hs : text.size ≤ 9223372036854775807) :
    implf73 KK (stnOf m t w b x) text = some ((doF w b (needF t) text x).1, stnOf m t w b (doF w b (needF t) text x).2) := by
  unfold implf73 doF
  rw [parse102 text hs]
  cases hp : parseF text with
  | none => rfl
  | some p =>
    obtain ⟨k, n⟩ := p
    obtain ⟨-, hk, c, rfl, hc⟩ := parse_rng hp
    simp only [obS, Bool.not_true, cond_false, cdec, Int.toNat_natCast]
    show (if (x.orders.length : Int) ≥ 100 then _ else _) = _
    by_cases e0 : 100 ≤ x.orders.length
    · rw [if_pos (show (x.orders.length : Int) ≥ 100 by omega), if_pos e0]
    · rw [if_neg (show ¬ (x.orders.length : Int) ≥ 100 by omega), if_neg e0]
      have he := exe103 m t w b ht hw hb hN hM hx hy x k hk c hc
      show ob (implf103 KK (stnOf m t w b x) (stOf x) (k, (c : Int))) _ = _
      rw [he]
      have hoo := ho k c
      obtain ⟨y, hy2⟩ : ∃ y, y = exeF w b (needF t) k c x := ⟨_, rfl⟩
      rw [← hy2] at hoo ⊢
      show (bif !decide (y.1 = 0) then _ else _) = _
      rw [cnot, cdec]
      by_cases e1 : y.1 = 0
      · rw [if_pos e1, if_pos e1]
        show ob (implf104 KK y.2.orders) _ = _
        rw [clone104 _ (by rw [hoo]; omega)]
        show (if (y.2.orders.length + 1) * 16 ≤ 140737488355328 then _ else none) = _
        rw [if_pos (by rw [hoo]; omega)]
        rfl
      · rw [if_neg e1, if_neg e1]
theorem pickO {o : List ByteArray} {c : Prop} [Decidable c] {a b : Int × Sv} (ha : a.2.orders = o) (hb : b.2.orders = o) : (if c then a else b).2.orders = o := by
  split
  · exact ha
  · exact hb
theorem pass_orders (b : Box) (need : Int) (x : Sv) : (passF b need x).orders = x.orders := by
  unfold passF
  split
  · rfl
  · split <;> rfl
theorem hours_orders (b : Box) (need : Int) : ∀ (n : Nat) (x : Sv), (hoursF b need n x).orders = x.orders
  | 0, _ => rfl
  | n + 1, x => (hours_orders b need n (passF b need x)).trans (pass_orders b need x)
theorem fire_orders (w : List Int) (n : Nat) (x : Sv) : (fireF w n x).2.orders = x.orders := by
  unfold fireF
  exact pickO rfl (pickO rfl (pickO rfl rfl))
theorem exe_orders (w : List Int) (b : Box) (need k : Int) (n : Nat) (x : Sv) : (exeF w b need k n x).2.orders = x.orders := by
  unfold exeF
  exact pickO (pickO rfl rfl) (pickO (pickO rfl rfl) (pickO (pickO rfl (pickO rfl rfl)) (pickO (pickO rfl (hours_orders b need n x))
    (pickO (pickO rfl (pickO rfl rfl)) (pickO (fire_orders w n x) (pickO rfl (pickO rfl rfl)))))))
/-- A right kit. -/
structure RKit (t w : List Int) (b : Box) : Prop where
  ht : vTone t = 0
  hw : vWeights w = 0
  hb : vBox b = 0
theorem kit_of {t w : List Int} {b : Box} (h : kitErr t w b = 0) : RKit t w b := by
  unfold kitErr at h
  by_cases e1 : vTone t = 0
  · rw [if_pos e1] at h
    by_cases e2 : vWeights w = 0
    · rw [if_pos e2] at h; exact ⟨e1, e2, h⟩
    · rw [if_neg e2] at h; exact absurd h e2
  · rw [if_neg e1] at h; exact absurd h e1
theorem need_bd {t : List Int} (h : vTone t = 0) : 0 ≤ needF t ∧ needF t ≤ 24 := by
  obtain ⟨hn, hbits⟩ := bits_of h
  have hnr := need_rng hbits t.length (Nat.le_refl _)
  rw [List.take_length] at hnr
  have hnr : 0 ≤ needF t ∧ needF t ≤ (t.length : Int) := hnr
  omega

/-- What orders keep. -/
structure Inv (b : Box) (need : Int) (n : Nat) (x : Sv) : Prop where
  fine : Fine b (99 * n) x
  rich : Rich (10000 * n) x
  air : x.pumped = x.air + x.sounded * need
  stk : x.stocked = x.stock + x.used
theorem fine_mono {b : Box} {N N' : Nat} {x : Sv} (h : Fine b N x) (hN : N ≤ N') : Fine b N' x := by
  have := h.h1
  exact ⟨h.st0, h.st1, h.h0, by omega, h.f0, h.f1, h.s0, h.m0, h.sm, h.a0, h.a1⟩
theorem rich_mono {M M' : Nat} {x : Sv} (h : Rich M x) (hM : M ≤ M') : Rich M' x := by
  have h1 := h.m1; have h2 := h.u1; have h3 := h.p1; have h4 := h.k1
  exact ⟨h.c0, h.c1, h.m0, by omega, h.u0, by omega, h.p0, by omega, h.k0, by omega⟩
theorem inv_mono {b : Box} {need : Int} {n n' : Nat} {x : Sv} (h : Inv b need n x) (hn : n ≤ n') : Inv b need n' x :=
  ⟨fine_mono h.fine (by omega), rich_mono h.rich (by omega), h.air, h.stk⟩
theorem pickP {P : Sv → Prop} {c : Prop} [Decidable c] {a b : Int × Sv} (ha : c → P a.2) (hb : ¬c → P b.2) : P (if c then a else b).2 := by
  by_cases h : c
  · rw [if_pos h]; exact ha h
  · rw [if_neg h]; exact hb h
theorem pass_rest (b : Box) (need : Int) (x : Sv) : (passF b need x).stock = x.stock ∧ (passF b need x).amount = x.amount ∧ (passF b need x).used = x.used ∧ (passF b need x).pumped = x.pumped ∧ (passF b need x).stocked = x.stocked ∧
    (passF b need x).air + (passF b need x).sounded * need = x.air + x.sounded * need := by
  unfold passF
  split
  · exact ⟨rfl, rfl, rfl, rfl, rfl, rfl⟩
  · split
    · exact ⟨rfl, rfl, rfl, rfl, rfl, rfl⟩
    · refine ⟨rfl, rfl, rfl, rfl, rfl, ?_⟩
      show x.air - need + (x.sounded + 1) * need = _
      rw [Int.add_mul, Int.one_mul]; omega
theorem hours_rest (b : Box) (need : Int) : ∀ (n : Nat) (x : Sv), (hoursF b need n x).stock = x.stock ∧ (hoursF b need n x).amount = x.amount ∧ (hoursF b need n x).used = x.used ∧ (hoursF b need n x).pumped = x.pumped ∧ (hoursF b need n x).stocked = x.stocked ∧
    (hoursF b need n x).air + (hoursF b need n x).sounded * need = x.air + x.sounded * need
  | 0, _ => ⟨rfl, rfl, rfl, rfl, rfl, rfl⟩
  | n + 1, x => by
    obtain ⟨a1, a2, a3, a4, a5, a6⟩ := hours_rest b need n (passF b need x)
    obtain ⟨b1, b2, b3, b4, b5, b6⟩ := pass_rest b need x
    exact ⟨a1.trans b1, a2.trans b2, a3.trans b3, a4.trans b4, a5.trans b5, a6.trans b6⟩
theorem rich_of {M : Nat} {x y : Sv} (h : Rich M x) (e1 : y.stock = x.stock) (e2 : y.amount = x.amount) (e3 : y.used = x.used) (e4 : y.pumped = x.pumped) (e5 : y.stocked = x.stocked) : Rich M y :=
  ⟨by rw [e1]; exact h.c0, by rw [e1]; exact h.c1, by rw [e2]; exact h.m0, by rw [e2]; exact h.m1, by rw [e3]; exact h.u0, by rw [e3]; exact h.u1, by rw [e4]; exact h.p0, by rw [e4]; exact h.p1, by rw [e5]; exact h.k0, by rw [e5]; exact h.k1⟩
theorem fine_of {b : Box} {N : Nat} {x y : Sv} (h : Fine b N x) (e1 : y.state = x.state) (e2 : y.hour = x.hour) (e3 : y.foggy = x.foggy) (e4 : y.sounded = x.sounded) (e5 : y.missed = x.missed) (e6 : y.air = x.air) : Fine b N y :=
  ⟨by rw [e1]; exact h.st0, by rw [e1]; exact h.st1, by rw [e2]; exact h.h0, by rw [e2]; exact h.h1, by rw [e3]; exact h.f0, by rw [e3, e2]; exact h.f1, by rw [e4]; exact h.s0, by rw [e5]; exact h.m0, by rw [e4, e5, e2]; exact h.sm, by rw [e6]; exact h.a0, by rw [e6]; exact h.a1⟩
theorem inv_of {b : Box} {need : Int} {n : Nat} {x y : Sv} (h : Inv b need n x) (e1 : y.state = x.state) (e2 : y.hour = x.hour) (e3 : y.foggy = x.foggy) (e4 : y.sounded = x.sounded) (e5 : y.missed = x.missed) (e6 : y.air = x.air)
    (f1 : y.stock = x.stock) (f2 : y.amount = x.amount) (f3 : y.used = x.used) (f4 : y.pumped = x.pumped) (f5 : y.stocked = x.stocked) : Inv b need n y :=
  ⟨fine_of h.fine e1 e2 e3 e4 e5 e6, rich_of h.rich f1 f2 f3 f4 f5, by rw [f4, e6, e4]; exact h.air, by rw [f5, f1, f3]; exact h.stk⟩
theorem fire_inv {b : Box} {need : Int} {w : List Int} {n : Nat} {x : Sv} (h : Inv b need n x) (c : Nat) : Inv b need (n + 1) (fireF w c x).2 := by
  have hm := inv_mono h (Nat.le_succ n)
  unfold fireF
  refine pickP (fun _ => hm) fun h1 => pickP (fun _ => hm) fun h2 => pickP (fun _ => hm) fun h3 => ?_
  have hr := tabF_rng w c c
  obtain ⟨v, hv⟩ : ∃ v, v = (tabF w c).getD c 0 := ⟨_, rfl⟩
  rw [← hv] at h2 h3 hr ⊢
  have q := h.rich
  have c0 := q.c0; have c1 := q.c1; have m0 := q.m0; have m1 := q.m1; have u0 := q.u0; have u1 := q.u1; have p0 := q.p0; have p1 := q.p1; have k0 := q.k0; have k1 := q.k1
  have hs := h.stk
  refine ⟨fine_of hm.fine rfl rfl rfl rfl rfl rfl, ⟨?_, ?_, ?_, ?_, ?_, ?_, ?_, ?_, ?_, ?_⟩, h.air, ?_⟩
  · show 0 ≤ x.stock - v; omega
  · show x.stock - v ≤ 500; omega
  · show 0 ≤ x.amount + c; omega
  · show x.amount + c ≤ ((10000 * (n + 1) : Nat) : Int); omega
  · show 0 ≤ x.used + v; omega
  · show x.used + v ≤ ((10000 * (n + 1) : Nat) : Int); omega
  · exact p0
  · show x.pumped ≤ ((10000 * (n + 1) : Nat) : Int); omega
  · exact k0
  · show x.stocked ≤ ((10000 * (n + 1) : Nat) : Int); omega
  · show x.stocked = x.stock - v + (x.used + v); omega
theorem exe_inv {t w : List Int} {b : Box} (K : RKit t w b) {n : Nat} {x : Sv} (h : Inv b (needF t) n x) (k : Int) (c : Nat) (hc : c ≤ 9999) : Inv b (needF t) (n + 1) (exeF w b (needF t) k c x).2 := by
  have hm := inv_mono h (Nat.le_succ n)
  have q := h.rich
  have c0 := q.c0; have c1 := q.c1; have m0 := q.m0; have m1 := q.m1; have u0 := q.u0; have u1 := q.u1; have p0 := q.p0; have p1 := q.p1; have k0 := q.k0; have k1 := q.k1
  have hs := h.stk
  have ha := h.air
  have f := h.fine
  have a0 := f.a0; have a1 := f.a1; have h0 := f.h0; have h1 := f.h1
  unfold exeF
  refine pickP (fun _ => pickP (fun _ => hm) fun _ => inv_of hm rfl rfl rfl rfl rfl rfl rfl rfl rfl rfl rfl) fun _ =>
    pickP (fun _ => pickP (fun _ => inv_of hm rfl rfl rfl rfl rfl rfl rfl rfl rfl rfl rfl) fun _ => hm) fun _ =>
    pickP (fun _ => pickP (fun _ => hm) fun _ => pickP (fun _ => hm) fun e => ?_) fun _ =>
    pickP (fun _ => pickP (fun _ => hm) fun e => ?_) fun _ =>
    pickP (fun _ => pickP (fun _ => hm) fun _ => pickP (fun _ => hm) fun e => ?_) fun _ =>
    pickP (fun _ => fire_inv h c) fun _ => pickP (fun _ => hm) fun e => pickP (fun _ => hm) fun _ => ?_
  · refine ⟨⟨f.st0, f.st1, f.h0, ?_, f.f0, f.f1, f.s0, f.m0, f.sm, ?_, ?_⟩, ⟨c0, c1, m0, ?_, u0, ?_, ?_, ?_, k0, ?_⟩, ?_, hs⟩
    · show x.hour ≤ ((99 * (n + 1) : Nat) : Int); omega
    · show 0 ≤ x.air + c; omega
    · show x.air + c ≤ 500; omega
    · show x.amount ≤ ((10000 * (n + 1) : Nat) : Int); omega
    · show x.used ≤ ((10000 * (n + 1) : Nat) : Int); omega
    · show 0 ≤ x.pumped + c; omega
    · show x.pumped + c ≤ ((10000 * (n + 1) : Nat) : Int); omega
    · show x.stocked ≤ ((10000 * (n + 1) : Nat) : Int); omega
    · show x.pumped + c = x.air + c + x.sounded * needF t; omega
  · obtain ⟨r1, r2, r3, r4, r5, r6⟩ := hours_rest b (needF t) c x
    refine ⟨fine_mono (fine_hours K.hb K.ht c f) (by omega), rich_of hm.rich r1 r2 r3 r4 r5, ?_, ?_⟩
    · rw [r4, r6]; exact ha
    · rw [r5, r1, r3]; exact hs
  · refine ⟨fine_of hm.fine rfl rfl rfl rfl rfl rfl, ⟨?_, ?_, m0, ?_, u0, ?_, p0, ?_, ?_, ?_⟩, ha, ?_⟩
    · show 0 ≤ x.stock + c; omega
    · show x.stock + c ≤ 500; omega
    · show x.amount ≤ ((10000 * (n + 1) : Nat) : Int); omega
    · show x.used ≤ ((10000 * (n + 1) : Nat) : Int); omega
    · show x.pumped ≤ ((10000 * (n + 1) : Nat) : Int); omega
    · show 0 ≤ x.stocked + c; omega
    · show x.stocked + c ≤ ((10000 * (n + 1) : Nat) : Int); omega
    · show x.stocked + c = x.stock + c + x.used; omega
  · obtain ⟨-, hb2, -⟩ := box_of K.hb
    have g := hm.fine
    refine ⟨⟨?_, ?_, g.h0, g.h1, g.f0, g.f1, g.s0, g.m0, g.sm, g.a0, g.a1⟩, rich_of hm.rich rfl rfl rfl rfl rfl, ha, hs⟩
    · show 0 ≤ (c : Int); omega
    · show (c : Int) < (b.1.length : Int); omega
/-- An error is no negative number. -/
theorem pickN {c : Prop} [Decidable c] {a b : Int × Sv} (ha : 0 ≤ a.1) (hb : 0 ≤ b.1) : 0 ≤ (if c then a else b).1 := by
  split
  · exact ha
  · exact hb
theorem fire_nonneg (w : List Int) (n : Nat) (x : Sv) : 0 ≤ (fireF w n x).1 := by
  unfold fireF
  exact pickN (by dsimp only; decide) (pickN (by dsimp only; decide) (pickN (by dsimp only; decide) (Int.le_refl 0)))
theorem exe_nonneg (w : List Int) (b : Box) (need k : Int) (n : Nat) (x : Sv) : 0 ≤ (exeF w b need k n x).1 := by
  unfold exeF
  exact pickN (pickN (by dsimp only; decide) (Int.le_refl 0)) (pickN (pickN (Int.le_refl 0) (by dsimp only; decide)) (pickN (pickN (by dsimp only; decide) (pickN (by dsimp only; decide) (Int.le_refl 0))) (pickN (pickN (by dsimp only; decide) (Int.le_refl 0))
    (pickN (pickN (by dsimp only; decide) (pickN (by dsimp only; decide) (Int.le_refl 0))) (pickN (fire_nonneg w n x) (pickN (by dsimp only; decide) (pickN (by dsimp only; decide) (Int.le_refl 0))))))))

theorem kind_bytes {h : ByteArray} {k : Int} {w : Bool} (e : kindF h = some (k, w)) : ∀ c ∈ by_ h, c ≠ 10 := by
  unfold kindF at e
  repeat (split at e; · rename_i hh; rw [hh]; decide)
  cases e
theorem num_bytes {l : List UInt8} {n : Nat} (h : numF l = some n) : ∀ c ∈ l, c ≠ 10 := by
  obtain ⟨h1, -⟩ := numF_digits h
  intro c hc e
  rw [← h1] at hc
  have := digit_rng _ _ hc
  rw [e] at this
  exact absurd this.1 (by decide)
theorem parse_text {x : ByteArray} {p : Int × Int} (e : parseF x = some p) : okText (by_ x) = true := by
  have hp : parseF x = match kindF (headF x) with
      | none => none
      | some (k, w) => if 40 < x.size ∨ decide (fi 32 (by_ x) < (by_ x).length) ≠ w then none else if w = false then some (k, 0) else (numF ((by_ x).drop (fi 32 (by_ x) + 1))).map fun n : Nat => (k, (n : Int)) := rfl
  rw [hp] at e
  cases hk : kindF (headF x) with
  | none => rw [hk] at e; cases e
  | some q =>
    obtain ⟨k, w⟩ := q
    rw [hk] at e
    have e : (if 40 < x.size ∨ decide (fi 32 (by_ x) < (by_ x).length) ≠ w then none else if w = false then some (k, 0) else (numF ((by_ x).drop (fi 32 (by_ x) + 1))).map fun n : Nat => (k, (n : Int))) = some p := e
    have hb := kind_bytes hk
    have hb : ∀ c ∈ (by_ x).take (fi 32 (by_ x)), c ≠ 10 := hb
    have hpos := kind_pos hk
    have hpos : 0 < ((by_ x).take (fi 32 (by_ x))).length := hpos
    split at e
    · cases e
    · rename_i hc
      have h40 : x.size ≤ 40 := by
        by_cases h : 40 < x.size
        · exact absurd (.inl h) hc
        · omega
      have hw : decide (fi 32 (by_ x) < (by_ x).length) = w := by
        by_cases h : decide (fi 32 (by_ x) < (by_ x).length) = w
        · exact h
        · exact absurd (.inr h) hc
      have h1 : 1 ≤ (by_ x).length := by rw [List.length_take] at hpos; omega
      have hno : ∀ c ∈ by_ x, c ≠ 10 := by
        by_cases hlt : fi 32 (by_ x) < (by_ x).length
        · have hw2 : w = true := by rw [← hw]; exact decide_eq_true hlt
          subst hw2
          rw [if_neg (by decide)] at e
          cases hn : numF ((by_ x).drop (fi 32 (by_ x) + 1)) with
          | none => rw [hn] at e; cases e
          | some n =>
            have hd := num_bytes hn
            intro c hcm
            rw [← List.take_append_drop (fi 32 (by_ x)) (by_ x), List.mem_append] at hcm
            rcases hcm with hcm | hcm
            · exact hb c hcm
            · rw [drop_getD 0 hlt, List.mem_cons] at hcm
              rcases hcm with hcm | hcm
              · rw [fi_at 32 (by_ x) hlt] at hcm
                rw [hcm]; decide
              · exact hd c hcm
        · rw [List.take_of_length_le (by omega)] at hb
          exact hb
      unfold okText
      have h10 : (by_ x).contains 10 = false := by
        rw [← Bool.not_eq_true, List.contains_iff_mem]
        exact fun hm => hno 10 hm rfl
      rw [h10, decide_eq_true h1, decide_eq_true (show (by_ x).length ≤ 40 from h40)]
      rfl
def zeroS : Sv := ⟨0, false, 0, 0, 0, 0, 0, 0, 0, 0, 0, 0, []⟩
theorem zero_inv {t w : List Int} {b : Box} (K : RKit t w b) (n : Nat) : Inv b (needF t) n zeroS := by
  obtain ⟨hb1, -, -⟩ := box_of K.hb
  have h0 : (0 : Int) ≤ ((99 * n : Nat) : Int) := by omega
  have h1 : (0 : Int) ≤ ((10000 * n : Nat) : Int) := by omega
  refine ⟨⟨Int.le_refl 0, ?_, Int.le_refl 0, h0, Int.le_refl 0, Int.le_refl 0, Int.le_refl 0, Int.le_refl 0, by decide, Int.le_refl 0, by decide⟩,
    ⟨Int.le_refl 0, by decide, Int.le_refl 0, h1, Int.le_refl 0, h1, Int.le_refl 0, h1, Int.le_refl 0, h1⟩, ?_, rfl⟩
  · show (0 : Int) < (b.1.length : Int); omega
  · show (0 : Int) = 0 + 0 * needF t; omega
theorem do_inv {t w : List Int} {b : Box} (K : RKit t w b) {n : Nat} {x : Sv} (h : Inv b (needF t) n x) (o : ByteArray) : Inv b (needF t) (n + 1) (doF w b (needF t) o x).2 := by
  have hm := inv_mono h (Nat.le_succ n)
  unfold doF
  cases hp : parseF o with
  | none => exact hm
  | some p =>
    obtain ⟨k, c⟩ := p
    obtain ⟨-, -, m, rfl, hc⟩ := parse_rng hp
    refine pickP (fun _ => hm) fun _ => pickP (fun _ => ?_) fun _ => hm
    have := exe_inv K h k m hc
    exact inv_of this rfl rfl rfl rfl rfl rfl rfl rfl rfl rfl rfl
theorem do_err {w : List Int} {b : Box} {need : Int} {o : ByteArray} {x : Sv} (h : (doF w b need o x).1 ≠ 0) : (doF w b need o x).2 = x := by
  unfold doF at h ⊢
  cases hp : parseF o with
  | none => rfl
  | some p =>
    obtain ⟨k, c⟩ := p
    rw [hp] at h
    revert h
    show (if 100 ≤ x.orders.length then _ else _ : Int × Sv).1 ≠ 0 → (if 100 ≤ x.orders.length then _ else _ : Int × Sv).2 = x
    by_cases h1 : 100 ≤ x.orders.length
    · rw [if_pos h1]; intro _; rfl
    · rw [if_neg h1]
      by_cases h2 : (exeF w b need k c.toNat x).1 = 0
      · rw [if_pos h2]; intro h; exact absurd rfl h
      · rw [if_neg h2]; intro _; rfl
theorem do_ok {w : List Int} {b : Box} {need : Int} {o : ByteArray} {x : Sv} (h : (doF w b need o x).1 = 0) : (doF w b need o x).2.orders = x.orders ++ [o] ∧ okText (by_ o) = true ∧ x.orders.length < 100 := by
  unfold doF at h ⊢
  cases hp : parseF o with
  | none => rw [hp] at h; cases h
  | some p =>
    have ht := parse_text hp
    obtain ⟨k, c⟩ := p
    rw [hp] at h
    revert h
    show (if 100 ≤ x.orders.length then _ else _ : Int × Sv).1 = 0 → (if 100 ≤ x.orders.length then _ else _ : Int × Sv).2.orders = _ ∧ _
    by_cases h1 : 100 ≤ x.orders.length
    · rw [if_pos h1]; intro h; cases h
    · rw [if_neg h1]
      by_cases h2 : (exeF w b need k c.toNat x).1 = 0
      · rw [if_pos h2]; intro _
        refine ⟨?_, ht, by omega⟩
        show (exeF w b need k c.toNat x).2.orders ++ [o] = _
        rw [exe_orders]
      · rw [if_neg h2]; intro h; exact absurd h h2
theorem do_nonneg (w : List Int) (b : Box) (need : Int) (o : ByteArray) (x : Sv) : 0 ≤ (doF w b need o x).1 := by
  unfold doF
  cases hp : parseF o with
  | none => show (0 : Int) ≤ 2; decide
  | some p =>
    obtain ⟨k, c⟩ := p
    exact pickN (by dsimp only; decide) (pickN (Int.le_refl 0) (exe_nonneg w b need k c.toNat x))

/-- Orders that are all taken, one after another. -/
noncomputable def stepsF (w : List Int) (b : Box) (need : Int) : List ByteArray → Sv → Option Sv
  | [], x => some x
  | o :: r, x => if (doF w b need o x).1 = 0 then stepsF w b need r (doF w b need o x).2 else none
theorem steps_app (w : List Int) (b : Box) (need : Int) : ∀ (l m : List ByteArray) (x : Sv), stepsF w b need (l ++ m) x = (stepsF w b need l x).bind (stepsF w b need m)
  | [], m, x => rfl
  | o :: r, m, x => by
    show (if (doF w b need o x).1 = 0 then stepsF w b need (r ++ m) (doF w b need o x).2 else none) = (if (doF w b need o x).1 = 0 then stepsF w b need r (doF w b need o x).2 else none).bind _
    by_cases h : (doF w b need o x).1 = 0
    · rw [if_pos h, if_pos h]; exact steps_app w b need r m _
    · rw [if_neg h, if_neg h]; rfl
theorem steps_orders {w : List Int} {b : Box} {need : Int} : ∀ {l : List ByteArray} {x y : Sv}, stepsF w b need l x = some y → y.orders = x.orders ++ l
  | [], x, y, h => by cases h; simp
  | o :: r, x, y, h => by
    have h : (if (doF w b need o x).1 = 0 then stepsF w b need r (doF w b need o x).2 else none) = some y := h
    by_cases e : (doF w b need o x).1 = 0
    · rw [if_pos e] at h
      rw [steps_orders h, (do_ok e).1]; simp
    · rw [if_neg e] at h; cases h
theorem steps_inv {t w : List Int} {b : Box} (K : RKit t w b) : ∀ {l : List ByteArray} {n : Nat} {x y : Sv}, stepsF w b (needF t) l x = some y → Inv b (needF t) n x → Inv b (needF t) (n + l.length) y
  | [], n, x, y, h, hx => by cases h; exact hx
  | o :: r, n, x, y, h, hx => by
    have h : (if (doF w b (needF t) o x).1 = 0 then stepsF w b (needF t) r (doF w b (needF t) o x).2 else none) = some y := h
    by_cases e : (doF w b (needF t) o x).1 = 0
    · rw [if_pos e] at h
      have := steps_inv K h (do_inv K hx o)
      rw [List.length_cons, show n + (r.length + 1) = n + 1 + r.length by omega]
      exact this
    · rw [if_neg e] at h; cases h
theorem steps_text {w : List Int} {b : Box} {need : Int} : ∀ {l : List ByteArray} {x y : Sv}, stepsF w b need l x = some y → (∀ o ∈ l, okText (by_ o) = true) ∧ (x.orders.length ≤ 100 → y.orders.length ≤ 100)
  | [], x, y, h => by cases h; exact ⟨fun o ho => (by cases ho), id⟩
  | o :: r, x, y, h => by
    have h : (if (doF w b need o x).1 = 0 then stepsF w b need r (doF w b need o x).2 else none) = some y := h
    by_cases e : (doF w b need o x).1 = 0
    · rw [if_pos e] at h
      obtain ⟨i1, i2⟩ := steps_text h
      obtain ⟨d1, d2, d3⟩ := do_ok e
      refine ⟨fun a ha => ?_, fun _ => i2 (by rw [d1]; simp; omega)⟩
      rcases List.mem_cons.1 ha with rfl | ha
      · exact d2
      · exact i1 a ha
    · rw [if_neg e] at h; cases h

/-- A state that orders lead to, from nothing. -/
def Reach (w : List Int) (b : Box) (need : Int) (x : Sv) : Prop := stepsF w b need x.orders zeroS = some x
theorem reach_zero (w : List Int) (b : Box) (need : Int) : Reach w b need zeroS := rfl
theorem reach_do {w : List Int} {b : Box} {need : Int} {x : Sv} (h : Reach w b need x) (o : ByteArray) : Reach w b need (doF w b need o x).2 := by
  by_cases e : (doF w b need o x).1 = 0
  · obtain ⟨d1, -, -⟩ := do_ok e
    unfold Reach
    rw [d1, steps_app, h]
    show (if (doF w b need o x).1 = 0 then some (doF w b need o x).2 else none) = _
    rw [if_pos e]
  · rw [do_err e]; exact h
theorem reach_inv {t w : List Int} {b : Box} (K : RKit t w b) {x : Sv} (h : Reach w b (needF t) x) : Inv b (needF t) x.orders.length x := by
  have := steps_inv K h (zero_inv K 0)
  rw [Nat.zero_add] at this
  exact this
theorem reach_text {w : List Int} {b : Box} {need : Int} {x : Sv} (h : Reach w b need x) : (∀ o ∈ x.orders, okText (by_ o) = true) ∧ x.orders.length ≤ 100 := by
  obtain ⟨h1, h2⟩ := steps_text h
  exact ⟨h1, h2 (Nat.zero_le _)⟩
theorem text_size {o : ByteArray} (h : okText (by_ o) = true) : o.size ≤ 40 := by
  unfold okText at h
  simp only [Bool.and_eq_true, decide_eq_true_eq] at h
  exact h.1.2
theorem reach_prefix {w : List Int} {b : Box} {need : Int} {x : Sv} (h : Reach w b need x) (j : Nat) (hj : j ≤ x.orders.length) : ∃ y, Reach w b need y ∧ y.orders = x.orders.take j ∧ stepsF w b need (x.orders.drop j) y = some x := by
  have h' := h
  unfold Reach at h'
  conv at h' => lhs; rw [← List.take_append_drop j x.orders]
  rw [steps_app] at h'
  cases e : stepsF w b need (x.orders.take j) zeroS with
  | none => rw [e] at h'; cases h'
  | some y =>
    rw [e] at h'
    have ho := steps_orders e
    have ho : y.orders = x.orders.take j := ho
    refine ⟨y, ?_, ho, h'⟩
    unfold Reach
    rw [ho]; exact e
theorem do31 {t w : List Int} {b : Box} (K : RKit t w b) (m : Int) {x : Sv} (h : Reach w b (needF t) x) (o : ByteArray) (ho : o.size ≤ 9223372036854775807) :
    implf31a KK (stnOf (0, m) t w b x) o = some ((doF w b (needF t) o x).1, stnOf (0, m) t w b (doF w b (needF t) o x).2) := by
  have hi := reach_inv K h
  have hl := (reach_text h).2
  have hd := do73 (1, m) t w b K.ht K.hw K.hb (by omega) (by omega) hi.fine hi.rich (fun k n => exe_orders w b (needF t) k n x) o ho
  have hn := do_nonneg w b (needF t) o x
  unfold implf31a
  show (if (0 : Int) = 0 then ob (implf73 KK (stnOf (1, m) t w b x) o) _ else none) = _
  rw [if_pos rfl, hd]
  show (if 0 ≤ (doF w b (needF t) o x).1 ∧ (1 : Int) = 1 then _ else none) = _
  rw [if_pos ⟨hn, rfl⟩]
  rfl
/-- The book of a list of orders. -/
def bookB (l : List ByteArray) : ByteArray := ⟨(textF 0 (l.map by_)).toArray⟩
theorem by_book (l : List ByteArray) : by_ (bookB l) = textF 0 (l.map by_) := rfl
theorem book_size {l : List ByteArray} (h : ∀ o ∈ l, okText (by_ o) = true) (hn : l.length ≤ 100) : (bookB l).size ≤ 6000 := by
  have hlen := textF_len (l.map by_) 0 (by
    intro o ho
    obtain ⟨a, ha, rfl⟩ := List.mem_map.1 ho
    exact h a ha)
  rw [List.length_map, ← by_book, by_len] at hlen
  omega
theorem write67' {l : List ByteArray} (h : ∀ o ∈ l, okText (by_ o) = true) (hn : l.length ≤ 1000) : implf67 KK l = some (bookB l) :=
  write67 l (fun o ho => by have := text_size (h o ho); omega) hn
theorem look68 (t w : List Int) (b : Box) (m : Int) (x : Sv) : implf68a KK (stnOf (0, m) t w b x) = some (stOf x) := rfl
theorem book21 {t w : List Int} {b : Box} (m : Int) {need : Int} {x : Sv} (h : Reach w b need x) : implf21a KK (stnOf (0, m) t w b x) = some (bookB x.orders) := by
  obtain ⟨h1, h2⟩ := reach_text h
  unfold implf21a
  rw [look68]
  show ob (implf67 KK x.orders) _ = _
  rw [write67' h1 (by omega)]; rfl
theorem stock33 (t w : List Int) (b : Box) (m : Int) (x : Sv) : implf33a KK (stnOf (0, m) t w b x) = some x.stock := rfl
theorem fired34 (t w : List Int) (b : Box) (m : Int) (x : Sv) : implf34a KK (stnOf (0, m) t w b x) = some (x.amount, x.used) := rfl
theorem air37 (t w : List Int) (b : Box) (m : Int) (x : Sv) : implf37a KK (stnOf (0, m) t w b x) = some x.air := rfl
theorem sounded38 (t w : List Int) (b : Box) (m : Int) (x : Sv) : implf38a KK (stnOf (0, m) t w b x) = some x.sounded := rfl
theorem hour56 (t w : List Int) (b : Box) (m : Int) (x : Sv) : implf56a KK (stnOf (0, m) t w b x) = some x.hour := rfl
theorem state57 (t w : List Int) (b : Box) (m : Int) (x : Sv) : implf57a KK (stnOf (0, m) t w b x) = some x.state := rfl
theorem foggy58 (t w : List Int) (b : Box) (m : Int) (x : Sv) : implf58a KK (stnOf (0, m) t w b x) = some x.foggy := rfl
theorem missed59 (t w : List Int) (b : Box) (m : Int) (x : Sv) : implf59a KK (stnOf (0, m) t w b x) = some x.missed := rfl
theorem fog60 (t w : List Int) (b : Box) (m : Int) (x : Sv) : implf60a KK (stnOf (0, m) t w b x) = some x.fog := rfl
abbrev KitT : Type := List Int × List Int × List (List Int) × List Int
def isLarge (k : KitT) : Prop := 100 < k.1.length ∨ 50 < k.2.1.length ∨ 50 < k.2.2.1.length ∨ 50 < k.2.2.2.length
instance (k : KitT) : Decidable (isLarge k) := by unfold isLarge; infer_instance
theorem large25 (K : Nat) (k : KitT) : implf25 K k = some (decide (isLarge k)) := by
  unfold implf25
  rw [cdec, cdec, cdec]
  by_cases h1 : 100 < k.1.length
  · rw [if_pos (by omega), decide_eq_true (show isLarge k from .inl h1)]
  · rw [if_neg (by omega)]
    by_cases h2 : 50 < k.2.1.length
    · rw [if_pos (by omega), decide_eq_true (show isLarge k from .inr (.inl h2))]
    · rw [if_neg (by omega)]
      by_cases h3 : 50 < k.2.2.1.length
      · rw [if_pos (by omega), decide_eq_true (show isLarge k from .inr (.inr (.inl h3)))]
      · rw [if_neg (by omega)]
        by_cases h4 : 50 < k.2.2.2.length
        · rw [decide_eq_true (show ((k.2.2.2.length : Nat) : Int) > 50 by omega), decide_eq_true (show isLarge k from .inr (.inr (.inr h4)))]
        · rw [decide_eq_false (show ¬ ((k.2.2.2.length : Nat) : Int) > 50 by omega), decide_eq_false (show ¬ isLarge k from fun h => by rcases h with h | h | h | h <;> omega)]
theorem small_of {k : KitT} (h : ¬ isLarge k) : k.1.length ≤ 100 ∧ k.2.1.length ≤ 50 ∧ k.2.2.1.length ≤ 50 ∧ k.2.2.2.length ≤ 50 := by
  unfold isLarge at h
  omega
noncomputable def errOf (k : KitT) : Int := kitErr k.1 k.2.1 k.2.2
theorem s50a {k : KitT} (h : ¬ isLarge k) : implf50a KK k.1 k.2.1 k.2.2 = if errOf k = 0 then none else some ((), errOf k) := by
  obtain ⟨h1, h2, h3, h4⟩ := small_of h
  exact new50a k.1 k.2.1 k.2.2 h1 h2 h3 h4
theorem s50b {k : KitT} (h : ¬ isLarge k) : implf50b KK k.1 k.2.1 k.2.2 = if errOf k = 0 then some (stnOf (0, 0) k.1 k.2.1 k.2.2 zeroS, 0) else none := by
  obtain ⟨h1, h2, h3, h4⟩ := small_of h
  exact new50b k.1 k.2.1 k.2.2 h1 h2 h3 h4
theorem rdStep_eq {l : List UInt8} {s : Int} {o r : List UInt8} {s' : Int} (h : rdStep l s = some (o, r, s')) : l = lineF s o ++ r ∧ okText o = true ∧ s' = sumF s o := by
  simp only [rdStep] at h
  split at h
  · rename_i hc
    obtain ⟨h1, h2, h3, h4⟩ := hc
    obtain ⟨e, he⟩ : ∃ e, e = fi 10 l := ⟨_, rfl⟩
    have a1 := fi_at 10 l h1
    rw [← he] at h h1 h2 h3 h4 a1
    obtain ⟨t, ht⟩ : ∃ t, t = l.take e := ⟨_, rfl⟩
    have htl : t.length = e := by rw [ht, List.length_take]; omega
    rw [← ht] at h h2 h3 h4
    have a2 := fi_at 32 t (by rw [htl]; exact h2)
    have h2' : fi 32 t < t.length := by rw [htl]; exact h2
    cases h
    refine ⟨?_, h3, rfl⟩
    unfold lineF
    rw [h4]
    have e1 : l = t ++ 10 :: l.drop (e + 1) := by
      conv => lhs; rw [← List.take_append_drop e l]
      rw [drop_getD 0 h1, a1, ht]
    have e2 : t = t.take (fi 32 t) ++ 32 :: t.drop (fi 32 t + 1) := by
      conv => lhs; rw [← List.take_append_drop (fi 32 t) t]
      rw [drop_getD 0 h2', a2]
    conv => lhs; rw [e1, e2]
    simp
  · cases h
theorem rdL_text : ∀ (k : Nat) (x : ByteArray) (acc : List ByteArray) (s : Int) (y : ByteArray × List ByteArray × Int × Unit), rdL k x acc s = some y →
    ∃ m : List ByteArray, y.2.1 = acc ++ m ∧ (∀ o ∈ m, okText (by_ o) = true) ∧ by_ x = textF s (m.map by_) ++ by_ y.1
  | 0, _, _, _, _, h => by cases h
  | k + 1, x, acc, s, y, h => by
    have h : rdB (rdL k) x acc s = some y := h
    unfold rdB at h
    split at h
    · split at h
      · cases h
        exact ⟨[], by simp, fun o ho => (by cases ho), by simp [textF]⟩
      · rename_i o r s' hr
        obtain ⟨r1, r2, r3⟩ := rdStep_eq hr
        obtain ⟨m, m1, m2, m3⟩ := rdL_text k _ _ _ _ h
        refine ⟨⟨o.toArray⟩ :: m, by rw [m1]; simp, fun a ha => ?_, ?_⟩
        · rcases List.mem_cons.1 ha with rfl | ha
          · exact r2
          · exact m2 a ha
        · rw [r1]
          have m3 : r = textF s' (m.map by_) ++ by_ y.1 := m3
          rw [m3, r3, List.map_cons, by_mk o]
          simp [textF]
    · cases h
      exact ⟨[], by simp, fun o ho => (by cases ho), by simp [textF]⟩
theorem read_all (x : ByteArray) (hx : x.size ≤ 100000) : ∃ (l : List ByteArray) (rest : ByteArray), implf19 KK x = some (l, rest) ∧ implf44 KK x = some (l, rest) ∧ l.length ≤ 100 ∧ (∀ o ∈ l, okText (by_ o) = true) ∧ by_ x = textF 0 (l.map by_) ++ by_ rest := by
  obtain ⟨y, e, hy⟩ := rdL_some KK x [] 0 (by simp) (by show 100 < 1000000 + 0; omega)
  obtain ⟨m, m1, m2, m3⟩ := rdL_text _ _ _ _ _ e
  rw [List.nil_append] at m1
  refine ⟨y.2.1, y.1, ?_, ?_, hy, by rw [m1]; exact m2, by rw [m1]; exact m3⟩
  · unfold implf19; rw [eq19 _ _ _ _ hx, e]; rfl
  · unfold implf44; rw [eq44 _ _ _ _ hx, e]; rfl
theorem read_book {l : List ByteArray} (hl : ∀ o ∈ l, okText (by_ o) = true) (hn : l.length ≤ 100) : implf19 KK (bookB l) = some (l, ByteArray.mk #[]) ∧ implf44 KK (bookB l) = some (l, ByteArray.mk #[]) := by
  obtain ⟨j, rest, e, -, -, h5⟩ := read19 l hl hn (bookB l) [] (by rw [by_book]; simp)
  obtain ⟨rfl, rfl⟩ := h5 rfl
  rw [List.take_length] at e
  obtain ⟨l', rest', e1, e2, -⟩ := read_all (bookB l) (by have := book_size hl hn; omega)
  have := e.symm.trans e1
  rw [← this] at e1
  exact ⟨e, e2.trans this.symm⟩

/-- Orders done until one is refused. -/
noncomputable def playF (w : List Int) (b : Box) (need : Int) : List ByteArray → Nat → Sv → Sum Sv (Nat × Int)
  | [], _, x => .inl x
  | o :: r, i, x => if (doF w b need o x).1 = 0 then playF w b need r (i + 1) (doF w b need o x).2 else .inr (i, (doF w b need o x).1)
theorem play_of {w : List Int} {b : Box} {need : Int} : ∀ {l : List ByteArray} {i : Nat} {x y : Sv}, stepsF w b need l x = some y → playF w b need l i x = .inl y
  | [], _, _, _, h => by cases h; rfl
  | o :: r, i, x, y, h => by
    have h : (if (doF w b need o x).1 = 0 then stepsF w b need r (doF w b need o x).2 else none) = some y := h
    show (if (doF w b need o x).1 = 0 then playF w b need r (i + 1) (doF w b need o x).2 else .inr (i, (doF w b need o x).1)) = _
    by_cases e : (doF w b need o x).1 = 0
    · rw [if_pos e] at h ⊢
      exact play_of h
    · rw [if_neg e] at h; cases h
theorem loop24 {t w : List Int} {b : Box} (K : RKit t w b) (l : List ByteArray) (hl : ∀ o ∈ l, o.size ≤ 1000) (hn : l.length ≤ 1000) : ∀ (d j k : Nat) (x : Sv), l.length - j = d → j ≤ l.length → d < k → Reach w b (needF t) x →
    (∀ y, playF w b (needF t) (l.drop j) j x = .inl y → (∃ z, impll24a_0 KK k (stnOf (0, 0) t w b x) l l (l.length : Int) (j : Int) = some (.inl z)) ∧ impll24b_0 KK k (stnOf (0, 0) t w b x) l l (l.length : Int) (j : Int) = some (.inl (stnOf (0, 0) t w b y, (l.length : Int), ()))) ∧
    (∀ i e, playF w b (needF t) (l.drop j) j x = .inr (i, e) → impll24a_0 KK k (stnOf (0, 0) t w b x) l l (l.length : Int) (j : Int) = some (.inr ((), (i : Int), e, ())) ∧ impll24b_0 KK k (stnOf (0, 0) t w b x) l l (l.length : Int) (j : Int) = none)
  | d, j, 0, _, _, _, h, _ => by omega
  | d, j, k + 1, x, hd, hj, hk, hx => by
    have sa : ∀ a b c d e, impll24a_0 KK (k + 1) a b c d e = implb24a_0 KK (impll24a_0 KK k) a b c d e := fun _ _ _ _ _ => rfl
    have sb : ∀ a b c d e, impll24b_0 KK (k + 1) a b c d e = implb24b_0 KK (impll24b_0 KK k) a b c d e := fun _ _ _ _ _ => rfl
    simp only [sa, sb]
    unfold implb24a_0 implb24b_0
    rw [cdec, cdec]
    by_cases h : j < l.length
    · have ho := hl _ (getD_mem ByteArray.empty h)
      rw [if_pos (by omega), if_pos (by omega), if_pos (by omega), if_pos (by omega), Int.toNat_natCast, do31 K 0 hx _ (by omega), drop_getD ByteArray.empty h]
      obtain ⟨o, hoo⟩ : ∃ o, o = l.getD j ByteArray.empty := ⟨_, rfl⟩
      rw [← hoo]
      simp only [obS, ibne, cnot, cdec]
      show (∀ y, (if (doF w b (needF t) o x).1 = 0 then playF w b (needF t) (l.drop (j + 1)) (j + 1) (doF w b (needF t) o x).2 else .inr (j, (doF w b (needF t) o x).1)) = .inl y → _) ∧
        (∀ i e, (if (doF w b (needF t) o x).1 = 0 then playF w b (needF t) (l.drop (j + 1)) (j + 1) (doF w b (needF t) o x).2 else .inr (j, (doF w b (needF t) o x).1)) = .inr (i, e) → _)
      by_cases e : (doF w b (needF t) o x).1 = 0
      · simp only [if_pos e]
        rw [wrapS (by omega)]
        exact loop24 K l hl hn (d - 1) (j + 1) k _ (by omega) (by omega) (by omega) (reach_do hx o)
      · simp only [if_neg e]
        refine ⟨fun y h => (by cases h), fun i e h => ?_⟩
        cases h
        first | exact ⟨rfl, rfl⟩ | exact ⟨rfl, trivial⟩ | trivial
    · rw [if_neg (by omega), if_neg (by omega), List.drop_of_length_le (by omega)]
      have hjl : j = l.length := by omega
      refine ⟨fun y h => ?_, fun i e h => (by cases h)⟩
      cases h
      rw [hjl]
      exact ⟨⟨_, rfl⟩, rfl⟩
/-- What a station made by a book is: an error, or all that there is. -/
noncomputable def repF (k : KitT) (l : List ByteArray) (rest : ByteArray) : Sum (Int × Int) Sv :=
  if errOf k = 0 then (if rest = ByteArray.mk #[] then (match playF k.2.1 k.2.2 (needF k.1) l 0 zeroS with | .inl y => .inr y | .inr (i, e) => .inl ((i : Int), e)) else .inl (0, 11)) else .inl (0, errOf k)
theorem oelN {α R : Type} (a : Option R) (f : α → Option R) : oel none a f = a := rfl
theorem oelS {α R : Type} (x : α) (a : Option R) (f : α → Option R) : oel (some x) a f = f x := rfl
theorem rep24 {k : KitT} (hL : ¬ isLarge k) {text : ByteArray} {l : List ByteArray} {rest : ByteArray} (h19 : implf19 KK text = some (l, rest)) (hl : ∀ o ∈ l, okText (by_ o) = true) (hn : l.length ≤ 100) :
    (∀ i e, repF k l rest = .inl (i, e) → implf24a KK k.1 k.2.1 k.2.2 text = some ((), i, e)) ∧
    (∀ y, repF k l rest = .inr y → implf24a KK k.1 k.2.1 k.2.2 text = none ∧ implf24b KK k.1 k.2.1 k.2.2 text = some (stnOf (0, 0) k.1 k.2.1 k.2.2 y, (l.length : Int), 0)) := by
  unfold implf24a implf24b repF
  rw [s50a hL, s50b hL, h19]
  by_cases he : errOf k = 0
  · simp only [if_pos he, oelN, obS, ibne, decide_true, cnot, cond_true, beqB, cdec]
    by_cases hr : rest = ByteArray.mk #[]
    · simp only [if_pos hr]
      have K := kit_of he
      have hp := loop24 K l (fun o ho => by have := text_size (hl o ho); omega) (by omega) _ 0 KK zeroS rfl (Nat.zero_le _) (by show l.length - 0 < 1000000; omega) (reach_zero _ _ _)
      rw [List.drop_zero] at hp
      cases hc : playF k.2.1 k.2.2 (needF k.1) l 0 zeroS with
      | inl y =>
        obtain ⟨⟨z, h1⟩, h2⟩ := hp.1 y hc
        have h1 : impll24a_0 KK KK (stnOf (0, 0) k.1 k.2.1 k.2.2 zeroS) l l (l.length : Int) 0 = some (.inl z) := h1
        have h2 : impll24b_0 KK KK (stnOf (0, 0) k.1 k.2.1 k.2.2 zeroS) l l (l.length : Int) 0 = _ := h2
        rw [h1, h2]
        refine ⟨fun i e h => (by cases h), fun y' h => ?_⟩
        cases h
        first | exact ⟨rfl, rfl⟩ | exact ⟨rfl, trivial⟩ | trivial
      | inr p =>
        obtain ⟨i, e⟩ := p
        obtain ⟨h1, h2⟩ := hp.2 i e hc
        have h1 : impll24a_0 KK KK (stnOf (0, 0) k.1 k.2.1 k.2.2 zeroS) l l (l.length : Int) 0 = _ := h1
        rw [h1]
        refine ⟨fun i' e' h => ?_, fun y h => (by cases h)⟩
        cases h
        rfl
    · simp only [if_neg hr]
      refine ⟨fun i e h => ?_, fun y h => (by cases h)⟩
      cases h
      rfl
  · simp only [if_neg he, oelS]
    refine ⟨fun i e h => ?_, fun y h => (by cases h)⟩
    cases h
    rw [ibne, cnot, cdec, if_neg he]
theorem rep_reach {k : KitT} {x : Sv} (he : errOf k = 0) (h : Reach k.2.1 k.2.2 (needF k.1) x) : repF k x.orders (ByteArray.mk #[]) = .inr x := by
  unfold repF
  rw [if_pos he, if_pos rfl, play_of h]
theorem equal117 (l : List ByteArray) (h : l.length ≤ 1000) : implf117 KK l l = some true := by
  unfold implf117
  have key := upto (fun k (p : Nat) => impll117_0 KK k l l (l.length : Int) (p : Int)) (fun j => j) l.length (Sum.inl ((l.length : Int), ()))
    (fun k j hj => by
      show implb117_0 KK (impll117_0 KK k) l l _ _ = _
      unfold implb117_0
      rw [cdec, if_pos (by omega), if_pos (by omega), if_pos (by omega), Int.toNat_natCast, beqB, decide_eq_true rfl, wrapS (by omega)]
      rfl)
    (fun k => by
      show implb117_0 KK (impll117_0 KK k) l l _ _ = _
      unfold implb117_0
      rw [cdec, if_neg (by omega)])
  have key := key KK 0 (by show l.length - 0 < 1000000; omega) (Nat.zero_le _)
  have key : impll117_0 KK KK l l (l.length : Int) 0 = _ := key
  rw [ibne, decide_eq_true rfl]
  show ob (impll117_0 KK KK l l (l.length : Int) 0) _ = _
  rw [key]; rfl
theorem same91 (x : Sv) (h : x.orders.length ≤ 1000) : implf91 KK (stOf x) (stOf x) = some true := by
  unfold implf91
  show ob (implf117 KK x.orders x.orders) _ = _
  rw [equal117 _ h]
  simp only [obS, beq_self_eq_true, cond_true, stOf]
theorem audit55 {k : KitT} (hL : ¬ isLarge k) (he : errOf k = 0) {x : Sv} (h : Reach k.2.1 k.2.2 (needF k.1) x) : implf55a KK (stnOf (0, 0) k.1 k.2.1 k.2.2 x) = some true := by
  have K := kit_of he
  have hi := reach_inv K h
  obtain ⟨h1, h2⟩ := reach_text h
  have f := hi.fine
  have q := hi.rich
  have ha := hi.air; have hs := hi.stk
  have h3 := f.h0; have h4 := f.h1; have h5 := f.f0; have h6 := f.f1; have h7 := f.s0; have h8 := f.m0; have h9 := f.sm; have a0 := f.a0; have a1 := f.a1
  have q0 := q.c0; have q1 := q.c1; have q2 := q.u0; have q3 := q.u1; have q4 := q.p0; have q5 := q.p1
  have hmul : x.sounded * needF k.1 = x.pumped - x.air := by omega
  obtain ⟨e1, e2⟩ := (rep24 hL (read_book h1 h2).1 h1 h2).2 x (rep_reach he h)
  unfold implf55a
  rw [look68, need90 (0, 0) _ _ _ x K.ht]
  show (bif x.pumped != IntKind.i64.wrap (x.air + IntKind.i64.wrap (x.sounded * needF k.1)) then _ else (bif x.stocked != IntKind.i64.wrap (x.stock + x.used) then _ else (bif decide (x.foggy > x.hour) then _ else (bif decide (IntKind.i64.wrap (x.sounded + x.missed) > x.hour) then _ else ob (implf67 KK x.orders) fun y3 => oel (implf24a KK k.1 k.2.1 k.2.2 y3) _ _)))) = _
  rw [hmul, wrapI (n := x.pumped - x.air) (by omega) (by omega), wrapI (n := x.air + _) (by omega) (by omega), wrapI (n := x.stock + x.used) (by omega) (by omega), wrapI (n := x.sounded + x.missed) (by omega) (by omega), write67' h1 (by omega)]
  simp only [obS, ibne, cnot, cdec]
  rw [if_pos (by omega), if_pos hs, if_neg (by omega), if_neg (by omega), e1]
  show ob (implf24b KK k.1 k.2.1 k.2.2 (bookB x.orders)) _ = _
  rw [e2]
  show ob (implf91 KK (stOf x) (stOf x)) _ = _
  rw [same91 x (by omega)]; rfl
theorem mod_cut (n : Nat) (h : n ≤ 1000000000) (z : Int) : IntKind.u64.wrap (IntKind.i64.wrap ((n : Int) + 1)) ≠ 0 ∧ ∃ c : Nat, IntKind.i64.wrap ((IntKind.u64.wrap z).tmod (IntKind.u64.wrap (IntKind.i64.wrap ((n : Int) + 1)))) = (c : Int) ∧ c ≤ n := by
  rw [wrapS h]
  have hu2 : IntKind.u64.wrap ((n + 1 : Nat) : Int) = ((n + 1 : Nat) : Int) := IntWalk.u64_in _ ⟨by omega, by omega⟩
  rw [hu2]
  refine ⟨by omega, ?_⟩
  have hm0 : 0 ≤ IntKind.u64.wrap z := by
    simp only [IntKind.wrap_u64]
    omega
  have h6 := Int.emod_nonneg (IntKind.u64.wrap z) (show ((n + 1 : Nat) : Int) ≠ 0 by omega)
  have h7 := Int.emod_lt_of_pos (IntKind.u64.wrap z) (show (0 : Int) < ((n + 1 : Nat) : Int) by omega)
  rw [Int.tmod_eq_emod_of_nonneg hm0]
  refine ⟨(IntKind.u64.wrap z % ((n + 1 : Nat) : Int)).toNat, ?_, by omega⟩
  rw [wrapI (by omega) (by omega)]
  omega
theorem bal39 {k : KitT} (he : errOf k = 0) {x : Sv} (h : Reach k.2.1 k.2.2 (needF k.1) x) : implf39 KK (stnOf (0, 0) k.1 k.2.1 k.2.2 x) k = some true := by
  have K := kit_of he
  have hi := reach_inv K h
  obtain ⟨-, h2⟩ := reach_text h
  have f := hi.fine
  have q := hi.rich
  obtain ⟨-, hb2, -⟩ := box_of K.hb
  have h3 := f.h0; have h4 := f.h1; have h5 := f.f0; have h6 := f.f1; have h7 := f.s0; have h8 := f.m0; have h9 := f.sm; have a0 := f.a0; have a1 := f.a1; have s0 := f.st0; have s1 := f.st1
  have q0 := q.c0; have q1 := q.c1
  unfold implf39
  simp only [foggy58, hour56, sounded38, missed59, air37, stock33, state57, obS, cdec]
  rw [wrapI (n := x.sounded + x.missed) (by omega) (by omega), if_pos h6, if_pos h9, if_pos h5, if_pos h7, if_pos h8, if_pos a0, if_pos a1, if_pos q0, if_pos q1, if_pos s0, decide_eq_true (show x.state < (k.2.2.2.length : Int) by omega)]

theorem tone77' (t : List Int) : implf77 KK t = some (vTone t) := by
  by_cases h : t.length ≤ 1000
  · exact tone77 t h
  · unfold implf77 vTone
    rw [w106, decide_eq_false (show ¬ ((1 : Int) ≤ (t.length : Int) ∧ (t.length : Int) ≤ 24) by omega), if_neg (by omega)]
    rfl
theorem weights86' (w : List Int) : implf86 KK w = some (vWeights w) := by
  by_cases h : w.length ≤ 1000
  · exact weights86 w h
  · unfold implf86 vWeights
    rw [w105, decide_eq_false (show ¬ ((1 : Int) ≤ (w.length : Int) ∧ (w.length : Int) ≤ 4) by omega), if_neg (by omega)]
    rfl
theorem small_kit {k : KitT} (he : errOf k = 0) : ¬ isLarge k := by
  have K := kit_of he
  obtain ⟨h1, -⟩ := bits_of K.ht
  obtain ⟨h2, -⟩ := weights_of K.hw
  obtain ⟨h3, h4, -⟩ := box_of K.hb
  unfold isLarge
  omega
theorem g50a (k : KitT) : implf50a KK k.1 k.2.1 k.2.2 = if errOf k = 0 then none else some ((), errOf k) := by
  by_cases he : errOf k = 0
  · exact s50a (small_kit he)
  · rw [if_neg he]
    unfold errOf kitErr at he ⊢
    unfold implf50a
    rw [tone77', weights86', box87]
    simp only [obS, ibne, cnot, cdec]
    by_cases e1 : vTone k.1 = 0
    · rw [if_pos e1] at he
      by_cases e2 : vWeights k.2.1 = 0
      · rw [if_pos e2] at he
        simp only [e1, e2, if_true, if_neg he]
      · simp only [e1, if_true, if_neg e2]
    · simp only [if_neg e1]
/-- What a station tells is the same at the same state. -/
theorem same63 {t w : List Int} {b : Box} {need : Int} {x : Sv} (h : Reach w b need x) : implf63 KK (stnOf (0, 0) t w b x) (stnOf (0, 0) t w b x) = some true := by
  unfold implf63
  rw [fired34, hour56, fog60, state57, air37, stock33, foggy58, sounded38, missed59, book21 0 h]
  simp only [obS, beq_self_eq_true, cond_true]

theorem loop23 (a b : ByteArray) (l m : List ByteArray) (hl : l.length ≤ 100) (hm : m.length ≤ 100) (hs : ∀ i, i < min l.length m.length → l.getD i ByteArray.empty = m.getD i ByteArray.empty) : ∀ (d j k : Nat), min l.length m.length - j = d → j ≤ min l.length m.length → d < k →
    ∃ z, impll23_0 KK k a b l m (min (l.length : Int) (m.length : Int)) (j : Int) = some (.inl z)
  | d, j, 0, _, _, h => by omega
  | d, j, k + 1, hd, hj, hk => by
    show ∃ z, implb23_0 KK (impll23_0 KK k) a b l m (min (l.length : Int) (m.length : Int)) (j : Int) = some (.inl z)
    unfold implb23_0
    rw [cdec]
    by_cases h : j < min l.length m.length
    · rw [if_pos (by omega), if_pos (by omega), if_pos (by omega), Int.toNat_natCast, hs j h, beqB, decide_eq_true rfl, wrapS (by omega)]
      exact loop23 a b l m hl hm hs (d - 1) (j + 1) k (by omega) (by omega) (by omega)
    · rw [if_neg (by omega)]
      exact ⟨_, rfl⟩
theorem take_getD' {l : List ByteArray} {j i : Nat} (h : i < (l.take j).length) : (l.take j).getD i ByteArray.empty = l.getD i ByteArray.empty := by
  have h2 : i < j := by rw [List.length_take] at h; omega
  rw [List.getD_eq_getElem?_getD, List.getElem?_take, if_pos h2, ← List.getD_eq_getElem?_getD]
theorem merge_begin {l : List ByteArray} (hl : ∀ o ∈ l, okText (by_ o) = true) (hn : l.length ≤ 100) (j : Nat) (hj : j ≤ l.length) :
    implf23 KK (bookB (l.take j)) (bookB l) = some (bookB l, (l.length : Int), 0) ∧ implf23 KK (bookB l) (bookB (l.take j)) = some (bookB l, (l.length : Int), 0) := by
  have htl : (l.take j).length = j := by rw [List.length_take]; omega
  have hl' : ∀ o ∈ l.take j, okText (by_ o) = true := fun o ho => hl o (List.mem_of_mem_take ho)
  have r1 := (read_book hl hn).1
  have r2 := (read_book hl' (by omega)).1
  constructor
  · unfold implf23
    rw [r1, r2]
    simp only [obS, beqB, decide_true, Bool.not_true, cond_false]
    obtain ⟨z, e⟩ := loop23 (bookB (l.take j)) (bookB l) (l.take j) l (by omega) hn (fun i hi => take_getD' (by omega)) _ 0 KK rfl (Nat.zero_le _) (by show min (l.take j).length l.length - 0 < 1000000; omega)
    have e : impll23_0 KK KK (bookB (l.take j)) (bookB l) (l.take j) l (min ((l.take j).length : Int) (l.length : Int)) 0 = _ := e
    rw [e]
    simp only [obS, cdec]
    by_cases h : j < l.length
    · rw [if_pos (by omega)]
    · rw [if_neg (by omega), List.take_of_length_le (by omega)]
  · unfold implf23
    rw [r1, r2]
    simp only [obS, beqB, decide_true, Bool.not_true, cond_false]
    obtain ⟨z, e⟩ := loop23 (bookB l) (bookB (l.take j)) l (l.take j) hn (by omega) (fun i hi => (take_getD' (by omega)).symm) _ 0 KK rfl (Nat.zero_le _) (by show min l.length (l.take j).length - 0 < 1000000; omega)
    have e : impll23_0 KK KK (bookB l) (bookB (l.take j)) l (l.take j) (min (l.length : Int) ((l.take j).length : Int)) 0 = _ := e
    rw [e]
    simp only [obS, cdec]
    rw [if_neg (by omega)]

/-- Any beginning of a book is the book of the first orders, and a rest. -/
theorem book_prefix {l : List ByteArray} (hl : ∀ o ∈ l, okText (by_ o) = true) (hn : l.length ≤ 100) (c : Nat) (hc : c ≤ (bookB l).size) :
    ∃ (j : Nat) (rest : ByteArray), implf19 KK ((bookB l).extract 0 c) = some (l.take j, rest) ∧ j ≤ l.length ∧ rest.size ≤ c ∧ (bookB l).extract 0 (c - rest.size) = bookB (l.take j) := by
  have hs := book_size hl hn
  have hp : by_ ((bookB l).extract 0 c) ++ (by_ (bookB l)).drop c = textF 0 (l.map by_) := by
    rw [by_ext_cut, List.drop_zero, List.take_append_drop, by_book]
  obtain ⟨j, rest, e, h3, -, -⟩ := read19 l hl hn _ _ hp
  have hps : ((bookB l).extract 0 c).size = c := by
    rw [← by_len, by_ext_cut, List.drop_zero, List.length_take, by_len]; omega
  obtain ⟨l', rest', e1, -, -, -, e2⟩ := read_all ((bookB l).extract 0 c) (by omega)
  rw [e] at e1
  have e1 := Option.some.inj e1
  obtain ⟨rfl, rfl⟩ := Prod.mk.inj e1
  have hlen := congrArg List.length e2
  rw [by_len, hps, List.length_append, by_len] at hlen
  refine ⟨j, rest, e, h3, by omega, ?_⟩
  apply by_ext
  rw [by_ext_cut, List.drop_zero]
  have h4 : (by_ (bookB l)).take (c - rest.size) = ((by_ (bookB l)).take c).take (c - rest.size) := by
    rw [List.take_take, Nat.min_eq_left (by omega)]
  have h5 : (by_ (bookB l)).take c = textF 0 ((l.take j).map by_) ++ by_ rest := by
    rw [← e2, by_ext_cut, List.drop_zero]
  rw [h4, h5, List.take_left' (by omega), by_book]
theorem write_ok {l : List ByteArray} (hl : ∀ o ∈ l, okText (by_ o) = true) (hn : l.length ≤ 100) : implf22 KK l = some (bookB l, 0) := by
  rw [write22 l (fun o ho => by have := text_size (hl o ho); omega)]
  unfold wrF
  rw [if_neg (by omega), if_pos hl]
  rfl
/-- A station made again by a book that orders lead to. -/
theorem again24 {k : KitT} (he : errOf k = 0) {x : Sv} (h : Reach k.2.1 k.2.2 (needF k.1) x) : implf24a KK k.1 k.2.1 k.2.2 (bookB x.orders) = none ∧ implf24b KK k.1 k.2.1 k.2.2 (bookB x.orders) = some (stnOf (0, 0) k.1 k.2.1 k.2.2 x, (x.orders.length : Int), 0) := by
  obtain ⟨h1, h2⟩ := reach_text h
  exact (rep24 (small_kit he) (read_book h1 h2).1 h1 h2).2 x (rep_reach he h)
/-- What is sounded takes air, and no more. -/
theorem exe_snd (w : List Int) (b : Box) (need k : Int) (n : Nat) (x : Sv) : (exeF w b need k n x).2.sounded = x.sounded ∨ (exeF w b need k n x).2.pumped = x.pumped := by
  unfold exeF
  refine pickP (P := fun y => y.sounded = x.sounded ∨ y.pumped = x.pumped) (fun _ => ?_) fun _ => pickP (P := fun y => y.sounded = x.sounded ∨ y.pumped = x.pumped) (fun _ => ?_) fun _ =>
    pickP (P := fun y => y.sounded = x.sounded ∨ y.pumped = x.pumped) (fun _ => ?_) fun _ => pickP (P := fun y => y.sounded = x.sounded ∨ y.pumped = x.pumped) (fun _ => ?_) fun _ =>
    pickP (P := fun y => y.sounded = x.sounded ∨ y.pumped = x.pumped) (fun _ => ?_) fun _ => pickP (P := fun y => y.sounded = x.sounded ∨ y.pumped = x.pumped) (fun _ => ?_) fun _ => ?_
  · exact pickP (P := fun y => y.sounded = x.sounded ∨ y.pumped = x.pumped) (fun _ => .inl rfl) fun _ => .inl rfl
  · exact pickP (P := fun y => y.sounded = x.sounded ∨ y.pumped = x.pumped) (fun _ => .inl rfl) fun _ => .inl rfl
  · exact pickP (P := fun y => y.sounded = x.sounded ∨ y.pumped = x.pumped) (fun _ => .inl rfl) fun _ => pickP (P := fun y => y.sounded = x.sounded ∨ y.pumped = x.pumped) (fun _ => .inl rfl) fun _ => .inl rfl
  · exact pickP (P := fun y => y.sounded = x.sounded ∨ y.pumped = x.pumped) (fun _ => .inl rfl) fun _ => .inr (hours_rest b need n x).2.2.2.1
  · exact pickP (P := fun y => y.sounded = x.sounded ∨ y.pumped = x.pumped) (fun _ => .inl rfl) fun _ => pickP (P := fun y => y.sounded = x.sounded ∨ y.pumped = x.pumped) (fun _ => .inl rfl) fun _ => .inl rfl
  · unfold fireF
    exact pickP (P := fun y => y.sounded = x.sounded ∨ y.pumped = x.pumped) (fun _ => .inl rfl) fun _ => pickP (P := fun y => y.sounded = x.sounded ∨ y.pumped = x.pumped) (fun _ => .inl rfl) fun _ => pickP (P := fun y => y.sounded = x.sounded ∨ y.pumped = x.pumped) (fun _ => .inl rfl) fun _ => .inl rfl
  · exact pickP (P := fun y => y.sounded = x.sounded ∨ y.pumped = x.pumped) (fun _ => .inl rfl) fun _ => pickP (P := fun y => y.sounded = x.sounded ∨ y.pumped = x.pumped) (fun _ => .inl rfl) fun _ => .inl rfl
theorem do_snd (w : List Int) (b : Box) (need : Int) (o : ByteArray) (x : Sv) : (doF w b need o x).2.sounded = x.sounded ∨ (doF w b need o x).2.pumped = x.pumped := by
  unfold doF
  cases hp : parseF o with
  | none => exact .inl rfl
  | some p =>
    obtain ⟨k, c⟩ := p
    exact pickP (P := fun y => y.sounded = x.sounded ∨ y.pumped = x.pumped) (fun _ => .inl rfl) fun _ => pickP (P := fun y => y.sounded = x.sounded ∨ y.pumped = x.pumped) (fun _ => exe_snd w b need k c.toNat x) fun _ => .inl rfl
abbrev FirmT : Type := List Int × List Int × (List (List Int) × List Int) × List ByteArray × Int
abbrev kitOf (x : FirmT) : KitT := (x.1, x.2.1, x.2.2.1)
theorem loop20 {x : FirmT} (K : RKit x.1 x.2.1 x.2.2.1) (ho : ∀ o ∈ x.2.2.2.1, o.size ≤ 9223372036854775807) : ∀ (d j k : Nat) (s : Sv), 40 - j = d → j ≤ 40 → d < k → Reach x.2.1 x.2.2.1 (needF x.1) s →
    ∃ y z, impll20b_0 KK k 40 x (stnOf (0, 0) x.1 x.2.1 x.2.2.1 s) s.orders (j : Int) = some (stnOf (0, 0) x.1 x.2.1 x.2.2.1 y, y.orders, z) ∧ Reach x.2.1 x.2.2.1 (needF x.1) y
  | d, j, 0, _, _, _, h, _ => by omega
  | d, j, k + 1, s, hd, hj, hk, hs => by
    show ∃ y z, implb20b_0 KK (impll20b_0 KK k) 40 x (stnOf (0, 0) x.1 x.2.1 x.2.2.1 s) s.orders (j : Int) = some (stnOf (0, 0) x.1 x.2.1 x.2.2.1 y, y.orders, z) ∧ _
    unfold implb20b_0
    rw [cdec, cdec]
    by_cases h : j < x.2.2.2.1.length
    · rw [if_pos (by omega)]
      by_cases h40 : (j : Int) < 40
      · have hsz := ho _ (getD_mem ByteArray.empty h)
        have hr := reach_do hs (x.2.2.2.1.getD j ByteArray.empty)
        have hok := do_ok (w := x.2.1) (b := x.2.2.1) (need := needF x.1) (o := x.2.2.2.1.getD j ByteArray.empty) (x := s)
        have hde := do_err (w := x.2.1) (b := x.2.2.1) (need := needF x.1) (o := x.2.2.2.1.getD j ByteArray.empty) (x := s)
        obtain ⟨-, n1⟩ := reach_text hs
        rw [if_pos h40, if_pos (by omega), Int.toNat_natCast, do31 K 0 hs _ hsz]
        simp only [obS, ibeq, cdec]
        rw [wrapS (show j ≤ 1000000000 by omega)]
        by_cases e : (doF x.2.1 x.2.2.1 (needF x.1) (x.2.2.2.1.getD j ByteArray.empty) s).1 = 0
        · have l1 : ∀ v : ByteArray, ((List.replicate 1 ByteArray.empty).set 0 v).length = 1 := fun _ => rfl
          rw [if_pos e, if_pos (by omega), if_pos (by rw [l1]; omega)]
          have hor := (hok e).1
          show ∃ y z, impll20b_0 KK k 40 x _ (s.orders ++ [x.2.2.2.1.getD j ByteArray.empty]) _ = _ ∧ _
          rw [← hor]
          exact loop20 K ho (d - 1) (j + 1) k _ (by omega) (by omega) (by omega) hr
        · rw [if_neg e, hde e]
          exact loop20 K ho (d - 1) (j + 1) k _ (by omega) (by omega) (by omega) hs
      · rw [if_neg h40]
        exact ⟨s, _, rfl, hs⟩
    · rw [if_neg (by omega)]
      exact ⟨s, _, rfl, hs⟩
theorem obNone {α β : Type} (o : Option α) : ob o (fun _ => (none : Option β)) = none := by cases o <;> rfl
theorem firm20 (x : FirmT) (ho : ∀ o ∈ x.2.2.2.1, o.size ≤ 9223372036854775807) :
    (errOf (kitOf x) ≠ 0 → implf20a KK x 40 = some ((), [], false)) ∧
    (errOf (kitOf x) = 0 → implf20a KK x 40 = none ∧ ∃ y, implf20b KK x 40 = some (stnOf (0, 0) x.1 x.2.1 x.2.2.1 y, y.orders, true) ∧ Reach x.2.1 x.2.2.1 (needF x.1) y) := by
  have ga : implf50a KK x.1 x.2.1 x.2.2.1 = if errOf (kitOf x) = 0 then none else some ((), errOf (kitOf x)) := g50a (kitOf x)
  constructor
  · intro he
    unfold implf20a
    rw [ga, if_neg he]
    simp only [oelS, ibne, decide_eq_false he, Bool.not_false, cond_true]
  · intro he
    have gb : implf50b KK x.1 x.2.1 x.2.2.1 = if errOf (kitOf x) = 0 then some (stnOf (0, 0) x.1 x.2.1 x.2.2.1 zeroS, 0) else none := s50b (small_kit he)
    unfold implf20a implf20b
    rw [ga, gb, if_pos he, if_pos he]
    simp only [oelN, obS, ibne, decide_true, Bool.not_true, cond_false]
    obtain ⟨y, z, e, hr⟩ := loop20 (x := x) (kit_of he) ho _ 0 KK zeroS rfl (by omega) (by show 40 - 0 < 1000000; omega) (reach_zero _ _ _)
    have e : impll20b_0 KK KK 40 x (stnOf (0, 0) x.1 x.2.1 x.2.2.1 zeroS) [] 0 = _ := e
    rw [e, obNone]
    exact ⟨rfl, y, rfl, hr⟩
end Go.Proofs.YtbpjodikknbcoaaGreatDoor
