/- RelayApart: what is to be shown of the readings. -/
import Derived.Test.YthdmngalhppkcaaM13
set_option linter.unusedVariables false
set_option linter.unusedSimpArgs false
namespace Go.Proofs.Ythdmngalhppkcaa
open Go Go.Pv Classical

/-- Is this a state's number? -/
def stn (b : Bx) (s : Int) : Prop := 0 ≤ s ∧ s ≤ (b.1.length : Int) - 1

theorem f70b (b : Bx) (hv : V b) (s t : Int) : implf70 300 b [s, t] = some (if stn b s ∧ stn b t then 0 else 4) := by
  unfold implf70
  rw [f30 300 (by omega)]
  simp only [obS, ibne, cnot, cdec, if_pos hv]
  rw [if_pos trivial]
  have h6 := hv.2.1
  have w1 : IntKind.i64.wrap ((b.1.length : Int) - 1) = (b.1.length : Int) - 1 := wrapI (by omega) (by omega)
  have e0 : ∀ k j, impll70_0 300 (k + 1) b [s, t] (([s, t].length : Nat) : Int) j = implb70_0 300 (impll70_0 300 k) b [s, t] (([s, t].length : Nat) : Int) j := fun k j => by rw [impll70_0]
  have i1 : IntKind.i64.wrap ((0 : Int) + 1) = 1 := wrapI (by omega) (by omega)
  have i2 : IntKind.i64.wrap ((1 : Int) + 1) = 2 := wrapI (by omega) (by omega)
  have g0 : [s, t].getD (0 : Int).toNat 0 = s := rfl
  have g1 : [s, t].getD (1 : Int).toNat 0 = t := rfl
  rw [e0, implb70_0]
  simp only [cdec, cnot, w61, obS, w1, g0]
  rw [if_pos (by simp), if_pos (by simp)]
  by_cases hs : 0 ≤ s ∧ s ≤ (b.1.length : Int) - 1
  · rw [if_pos hs, i1, e0, implb70_0]
    simp only [cdec, cnot, w61, obS, w1, g1]
    rw [if_pos (by simp), if_pos (by simp)]
    by_cases ht : 0 ≤ t ∧ t ≤ (b.1.length : Int) - 1
    · rw [if_pos ht, i2, e0, implb70_0]
      simp only [cdec]
      rw [if_neg (by simp), if_pos (show stn b s ∧ stn b t from ⟨hs, ht⟩)]; rfl
    · rw [if_neg ht, if_neg (fun h : stn b s ∧ stn b t => ht h.2)]; rfl
  · rw [if_neg hs, if_neg (fun h : stn b s ∧ stn b t => hs h.1)]; rfl

noncomputable def apart (b : Bx) (s t : Int) : List Int × Bool × Int := if V b then (if stn b s ∧ stn b t then ((tell b b s t).1, (tell b b s t).2, 0) else ([], false, 4)) else ([], false, 1)

theorem stn_in {b : Bx} {s : Int} (h : stn b s) : inB b s := ⟨h.1, by have := h.2; omega⟩

theorem f48 (b : Bx) (s t : Int) : implf48 300 b s t = some (apart b s t) := by
  unfold implf48 apart
  have e : ((List.replicate 2 (0 : Int)).set 0 s).set 1 t = [s, t] := rfl
  rw [e]
  by_cases hv : V b
  · rw [f70b b hv, if_pos hv]
    simp only [obS, ibne, cnot, cdec]
    by_cases h : stn b s ∧ stn b t
    · simp only [if_pos h]
      rw [if_pos trivial, f77 hv hv (stn_in h.1) (stn_in h.2)]; rfl
    · simp only [if_neg h]
      rw [if_neg (by omega)]
  · rw [if_neg hv]
    unfold implf70
    rw [f30 300 (by omega), if_neg hv]
    simp only [obS, ibne, cnot, cdec]
    rw [if_neg (by omega)]
    simp only [obS]
    rw [if_neg (by omega)]

theorem f49 (b : Bx) (s t : Int) : implf49 300 b s t = some (apart b s t) := by
  unfold implf49 apart
  rw [f72 300 (by omega), f72 300 (by omega)]
  simp only [obS, ibne, cnot, cdec]
  by_cases hv : V b
  · simp only [if_pos hv]
    by_cases hs : 0 ≤ s ∧ s ≤ (b.1.length : Int) - 1
    · by_cases ht : 0 ≤ t ∧ t ≤ (b.1.length : Int) - 1
      · simp only [if_pos hs, if_pos ht]
        rw [if_pos trivial, if_pos trivial, f79 hv hv (stn_in hs) (stn_in ht), if_pos (show stn b s ∧ stn b t from ⟨hs, ht⟩)]; rfl
      · simp only [if_pos hs, if_neg ht]
        rw [if_pos trivial, if_neg (by omega), if_neg (fun h : stn b s ∧ stn b t => ht h.2)]
    · simp only [if_neg hs]
      rw [if_neg (by omega), if_neg (fun h : stn b s ∧ stn b t => hs h.1)]
  · simp only [if_neg hv]
    rw [if_neg (by omega)]

theorem tell_short1 {b : Bx} (hv : V b) {s t : Int} (hs : inB b s) (ht : inB b t) : (tell b b s t).1.length < b.1.length := by
  cases h : (tell b b s t).2 with
  | true =>
    obtain ⟨h1, h2, h3⟩ := tell_true hv hv hs ht h
    have es : ((s.toNat : Nat) : Int) = s := by omega
    have et : ((t.toNat : Nat) : Int) = t := by omega
    obtain ⟨u, g1, g2, g3⟩ := moore (n := b.1.length) (out := out1 b) (nxt := nn b) (fun i hi x hx => (nn_lt hv hi hx).1) (fun i hi x hx w hw => out1_cons hv hi hx w) (i := s.toNat) (j := t.toNat) (by omega) (by omega) h1 (by unfold out1; rw [es, et]; exact h2)
    unfold out1 at g2
    rw [es, et] at g2
    have := h3 u g1 g2
    omega
  | false =>
    rw [(tell_false hv hv hs ht h).1]
    have := hv.1
    show 0 < _
    omega

theorem kdi_eq {b : Bx} {i j : Nat} : kdi b i = kdi b j ↔ eqv b i j := by
  have hi := first_spec (p := fun m => eqv b m i) (i := i) (fun _ _ => rfl)
  have hj := first_spec (p := fun m => eqv b m j) (i := j) (fun _ _ => rfl)
  constructor
  · intro h w hw
    have h1 := hi.1 w hw
    have h2 := hj.1 w hw
    have h : first (fun m => eqv b m i) i = first (fun m => eqv b m j) j := h
    rw [← h] at h2
    exact h1.symm.trans h2
  · intro h
    refine first_eq (p := fun m => eqv b m i) (fun _ _ => rfl) (fun w hw => (hj.1 w hw).trans (h w hw).symm) fun m hm he => hj.2.2 m hm fun w hw => (he w hw).trans (h w hw)

theorem coreApart (b : Bx) (s t : Int) : implf14 300 b (s, t) = some true := by
  unfold implf14
  rw [f19 300 b [] (by simp) (by simp)]
  simp only [obS, cdec]
  by_cases hl : lng b []
  · rw [if_pos hl, sane_ok]; rfl
  · rw [if_neg hl, f48, f49, f21]
    simp only [obS]
    by_cases hv : V b
    · have h6 := hv.2.1
      have h22 := hv.2.2.1
      unfold apart kc
      simp only [if_pos hv]
      by_cases h : stn b s ∧ stn b t
      · simp only [if_pos h]
        have hs := stn_in h.1
        have ht := stn_in h.2
        have hsh := tell_short1 hv hs ht
        have hkl : (kinds b).length = b.1.length := by simp [kinds]
        have hk : ∀ s, inB b s → (kinds b).getD s.toNat 0 = (kdi b s.toNat : Int) := fun s hs => by
          have : s.toNat < (kinds b).length := by omega
          rw [getD_lt 0 this]; simp [kinds]
        rw [f23 300 _ _ (by omega) (by omega)]
        have hb : (!((tell b b s t).2 == (tell b b s t).2)) = false := by cases (tell b b s t).2 <;> rfl
        simp only [obS, decide_true, Bool.not_true, cond_false, hb, ibne, ibeq, cnot, cdec, cond_true, if_true]
        have es : ((s.toNat : Nat) : Int) = s := by omega
        have et : ((t.toNat : Nat) : Int) = t := by omega
        have htold := told hv (i := s.toNat) (j := t.toNat) (by omega) (by omega)
        rw [es, et] at htold
        have hbool : ((tell b b s t).2 == !decide (((kinds b).getD s.toNat 0) = ((kinds b).getD t.toNat 0))) = true := by
          rw [hk s hs, hk t ht]
          have : ((kdi b s.toNat : Int) = (kdi b t.toNat : Int)) ↔ (tell b b s t).2 = false := by
            rw [htold]
            constructor
            · intro h w hw
              exact (kdi_eq.1 (by omega : kdi b s.toNat = kdi b t.toNat) w hw).symm
            · intro h
              have := kdi_eq.2 (fun w hw => (h w hw).symm : eqv b s.toNat t.toNat)
              omega
          cases h2 : (tell b b s t).2 with
          | false => rw [decide_eq_true (this.2 h2)]; rfl
          | true =>
            have : ¬ ((kdi b s.toNat : Int) = (kdi b t.toNat : Int)) := fun h3 => by rw [this.1 h3] at h2; cases h2
            rw [decide_eq_false this]; rfl
        rw [if_pos (by omega), if_pos (by omega), if_pos (by omega), hbool, cond_true]
        cases h2 : (tell b b s t).2 with
        | false => simp only [cond_false]; rw [sane_ok]; rfl
        | true => simp only [cond_true]; rw [if_pos (by omega), sane_ok]; rfl
      · simp only [if_neg h]
        rw [f23 300 _ _ (by simp) (by simp), sane_ok]
        simp [obS]
    · unfold apart
      simp only [if_neg hv]
      rw [f23 300 _ _ (by simp) (by simp), sane_ok]
      simp [obS]

theorem pureRelayApart : ∀ x, wfAll tl [25, 55] x → ∃ k, implf14 k x.1 x.2.1 = some true := fun x _ => ⟨300, coreApart x.1 x.2.1.1 x.2.1.2⟩

end Go.Proofs.Ythdmngalhppkcaa
