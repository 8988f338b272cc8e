/- RelayFroms: what is to be shown of the readings. -/
import Derived.Test.YthdmngalhppkcaaM5
set_option linter.unusedVariables false
set_option linter.unusedSimpArgs false
namespace Go.Proofs.Ythdmngalhppkcaa
open Go Go.Pv Classical

theorem row2 {r : List Int} (h : r.length = 2) : r = ((List.replicate 2 0).set 0 (r.getD 0 0)).set 1 (r.getD 1 0) := by
  match r, h with
  | [a, b], _ => rfl

/-- Two boxes whose states do the same are equal. -/
theorem box_ext {a b : Bx} (h1 : a.1.length = b.1.length) (h2 : a.2.length = b.2.length) (ra : ∀ r ∈ a.1, r.length = 2) (rb : ∀ r ∈ b.1, r.length = 2)
    (hn : ∀ j : Nat, j < a.1.length → nx a j 0 = nx b j 0 ∧ nx a j 1 = nx b j 1) (ho : ∀ j : Nat, j < a.2.length → ot a j = ot b j) : a = b := by
  refine Prod.ext ?_ ?_
  · apply List.ext_getElem h1
    intro i g1 g2
    have e1 := row2 (ra _ (List.getElem_mem g1))
    have e2 := row2 (rb _ (List.getElem_mem g2))
    obtain ⟨q0, q1⟩ := hn i g1
    have k1 : ∀ x : Nat, (a.1[i]).getD x 0 = (a.1.getD (i : Int).toNat (List.replicate 2 0)).getD x 0 := fun x => by simp [List.getD, g1]
    have k2 : ∀ x : Nat, (b.1[i]).getD x 0 = (b.1.getD (i : Int).toNat (List.replicate 2 0)).getD x 0 := fun x => by simp [List.getD, g2]
    have q0' : (a.1[i]).getD 0 0 = (b.1[i]).getD 0 0 := by rw [k1, k2]; exact q0
    have q1' : (a.1[i]).getD 1 0 = (b.1[i]).getD 1 0 := by rw [k1, k2]; exact q1
    rw [e1, e2, q0', q1']
  · apply List.ext_getElem h2
    intro i g1 g2
    have := ho i g1
    unfold ot at this
    simpa [List.getD, g1, g2] using this

theorem R_rows (b : Bx) (t : List Int) : ∀ j, ∀ r ∈ (R b t j).1, r.length = 2
  | 0 => fun r hr => by
    have := List.eq_of_mem_replicate hr
    rw [this]; rfl
  | j + 1 => fun r hr => by
    rcases List.mem_or_eq_of_mem_set hr with hr | rfl
    · exact R_rows b t j r hr
    · rfl

theorem v_sw {b : Bx} (hv : V b) {s : Int} (hs : inB b s) : V (rn b (sw b.1.length s)) :=
  v_rn hv (sw_num hs) (sw_inj hs) fun i hi => ⟨tt (sw b.1.length s) i, tt_in (sw_num hs) ⟨by omega, by omega⟩, sw_sw hs ⟨by omega, by omega⟩⟩

theorem fr_fr {b : Bx} (hv : V b) (h2 : ∀ r ∈ b.1, r.length = 2) {s : Int} (hs : inB b s) : rn (rn b (sw b.1.length s)) (sw b.1.length s) = b := by
  obtain ⟨r1, r2⟩ := rn_len b (sw b.1.length s)
  obtain ⟨q1, q2⟩ := rn_len (rn b (sw b.1.length s)) (sw b.1.length s)
  have hv' := v_sw hv hs
  have hn : num (rn b (sw b.1.length s)).1.length (sw b.1.length s) := by rw [r1]; exact sw_num hs
  have hi : inj (rn b (sw b.1.length s)).1.length (sw b.1.length s) := by rw [r1]; exact sw_inj hs
  have h22 := hv.2.2.1
  have hnx : ∀ (j : Nat) (x : Int), j < b.1.length → 0 ≤ x ∧ x ≤ 1 → nx (rn (rn b (sw b.1.length s)) (sw b.1.length s)) j x = nx b j x := by
    intro j x hj hx
    have hjb : inB b j := ⟨by omega, by omega⟩
    have hin : inB (rn b (sw b.1.length s)) (tt (sw b.1.length s) j) := by
      have := tt_in (sw_num hs) hjb
      unfold inB; rw [r1]; exact this
    have e := rn_nx hv' hn hi hin hx
    rw [sw_sw hs hjb] at e
    rw [e, rn_nx hv (sw_num hs) (sw_inj hs) hjb hx, sw_sw hs (nx_in hv hjb hx)]
  refine box_ext (by rw [q1, r1]) (by rw [q2, r1, h22]) (R_rows _ _ _) h2 (fun j hj => ?_) (fun j hj => ?_)
  · rw [q1, r1] at hj
    exact ⟨hnx j 0 hj (by omega), hnx j 1 hj (by omega)⟩
  · rw [q2, r1] at hj
    have hjb : inB b j := ⟨by omega, by omega⟩
    have hin : inB (rn b (sw b.1.length s)) (tt (sw b.1.length s) j) := by
      have := tt_in (sw_num hs) hjb
      unfold inB; rw [r1]; exact this
    have e := rn_ot hv' hn hi hin
    rw [sw_sw hs hjb] at e
    rw [e, rn_ot hv (sw_num hs) (sw_inj hs) hjb]

theorem coreFroms (b : Bx) (s : Int) (h2 : ∀ r ∈ b.1, r.length = 2) : implf9 300 b s = some true := by
  unfold implf9
  rw [f19 300 b [] (by simp) (by simp)]
  simp only [obS, cdec]
  by_cases hl : lng b []
  · rw [if_pos hl, sane_ok]; rfl
  · rw [if_neg hl, f39 300 (by omega), f40 300 (by omega)]
    simp only [obS]
    unfold fr
    by_cases hv : V b
    · obtain ⟨n1, n2, n3, n4⟩ := v_len hv
      simp only [if_pos hv]
      by_cases h : 0 ≤ s ∧ s ≤ (b.1.length : Int) - 1
      · have hs : inB b s := by unfold inB; omega
        obtain ⟨r1, r2⟩ := rn_len b (sw b.1.length s)
        simp only [if_pos h]
        rw [f34 300 _ _ (by show (rn b (sw b.1.length s)).1.length < 300; omega) (by show (rn b (sw b.1.length s)).2.length < 300; omega) (by show (rn b (sw b.1.length s)).1.length ≤ _; omega) (by show (rn b (sw b.1.length s)).2.length ≤ _; omega)]
        rw [show (((rn b (sw b.1.length s)).1, (rn b (sw b.1.length s)).2) : Bx) = rn b (sw b.1.length s) from rfl, f39 300 (by omega)]
        simp only [obS, decide_true, Bool.not_true, cond_false, ibne, ibeq, cnot, cdec, if_true]
        unfold fr
        rw [if_pos (v_sw hv hs), r1, if_pos h, fr_fr hv h2 hs]
        simp only [if_true]
        rw [show ((b.1, b.2) : Bx) = b from rfl, f34 300 _ _ (by omega) (by omega) (by omega) (by omega), sane_ok]
        simp [obS]
      · simp only [if_neg h]
        rw [f34 300 _ _ (by simp) (by simp) (by simp) (by simp), sane_ok]
        simp [obS]
    · simp only [if_neg hv]
      rw [f34 300 _ _ (by simp) (by simp) (by simp) (by simp), sane_ok]
      simp [obS]

/-- Of a box that came in: its rows have two places. -/
theorem box_wf {b : Bx} (h : (teAt tl 25).ty.wf b) : ∀ r ∈ b.1, r.length = 2 := by
  have h : (Ty.pr (.sl (.arr 2 (.int .i64))) (.sl (.int .i64))).wf b := h
  exact fun r hr => (h.1.2 r hr).1

theorem pureRelayFroms : ∀ x, wfAll tl [25, 3] x → ∃ k, implf9 k x.1 x.2.1 = some true := fun x hx => ⟨300, coreFroms x.1 x.2.1 (box_wf hx.1)⟩

end Go.Proofs.Ythdmngalhppkcaa
