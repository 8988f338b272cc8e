/- Which shifts overlap. -/
import Derived.Test.YtbojnkcolamneaaM1
set_option linter.unusedVariables false
set_option linter.unusedSimpArgs false
namespace Go.Proofs.Ytbojnkcolamneaa
open Go Go.Pv Classical

/-- Two shifts overlap. -/
def ov (s t : Shf) : Prop := s.1 < t.2.1 ∧ t.1 < s.2.1
/-- A shift runs at a moment. -/
def rn (s : Shf) (m : Int) : Prop := s.1 ≤ m ∧ m < s.2.1
theorem ov_comm {s t : Shf} : ov s t ↔ ov t s := And.comm
theorem ov_iff {s t : Shf} (hs : okS s) (ht : okS t) : ov s t ↔ ∃ m, rn s m ∧ rn t m := by
  unfold ov rn okS at *
  constructor
  · intro h
    by_cases g : s.1 ≤ t.1
    · exact ⟨t.1, by omega, by omega⟩
    · exact ⟨s.1, by omega, by omega⟩
  · rintro ⟨m, h1, h2⟩
    omega

theorem f61 (K : Nat) (s t : Shf) : implf61 K s t = some (decide (ov s t)) := by
  unfold implf61 ov
  by_cases h : s.1 < t.2.1 <;> simp [h]
theorem f83 (K : Nat) (s : Shf) (m : Int) : implf83 K s m = some (decide (rn s m)) := by
  unfold implf83 rn
  by_cases h : s.1 ≤ m <;> simp [h]
theorem f88 (K : Nat) (s : Shf) (m : Int) : implf88 K s m = some (decide (rn s m)) := by
  unfold implf88 rn
  by_cases h : s.1 ≤ m <;> simp [h]
theorem f66 (K : Nat) (s t : Shf) (hs : okS s) (ht : okS t) : implf66 K s t = some (decide (ov s t)) := by
  unfold implf66
  rw [f83, f83]
  simp only [obS, cdec]
  unfold okS at hs ht
  by_cases h : rn s (max s.1 t.1)
  · rw [if_pos h]
    congr 1
    have : rn t (max s.1 t.1) ↔ ov s t := by
      unfold rn ov at *
      omega
    simp only [this]
  · rw [if_neg h, decide_eq_false (show ¬ ov s t from fun g => h (by unfold rn ov at *; omega))]

/-- The number of a shift is right. -/
def ix (l : List Shf) (i : Int) : Prop := 0 ≤ i ∧ i ≤ (l.length : Int) - 1
theorem ix_iff {l : List Shf} {i : Int} : ix l i ↔ 0 ≤ i ∧ i < (l.length : Int) := by unfold ix; omega
theorem f75_1 (K : Nat) (hK : 12 < K) (l : List Shf) (hl : ∀ s ∈ l, inS s) (i : Int) : implf75 K l [i] = some (if er l ≠ 0 then er l else if ix l i then 0 else 4) := by
  unfold implf75
  rw [f31 K hK l hl]
  simp only [obS, ibne, cdec, cnot]
  by_cases h : er l = 0
  · rw [if_pos h, if_neg (fun g => g h)]
    have hlen : l.length ≤ 12 := (er_ok.1 h).1
    have hw : IntKind.i64.wrap ((l.length : Int) - 1) = (l.length : Int) - 1 := wrapI (by omega) (by omega)
    obtain ⟨k, rfl⟩ : ∃ k, K = k + 2 := ⟨K - 2, by omega⟩
    rw [impll75_0, implb75_0]
    simp only [w60, obS, cdec, cnot, hw]
    rw [if_pos (by simp), if_pos (by simp)]
    have e : ([i] : List Int).getD (0 : Int).toNat 0 = i := rfl
    rw [e]
    by_cases g : ix l i
    · rw [if_pos g, if_pos (show 0 ≤ i ∧ i ≤ (l.length : Int) - 1 from g), show IntKind.i64.wrap ((0 : Int) + 1) = 1 by decide, impll75_0, implb75_0]
      simp only [cdec]
      rw [if_neg (by simp)]
      rfl
    · rw [if_neg g, if_neg (show ¬ (0 ≤ i ∧ i ≤ (l.length : Int) - 1) from g)]
      rfl
  · rw [if_neg h, if_pos h]
theorem f75_2 (K : Nat) (hK : 12 < K) (l : List Shf) (hl : ∀ s ∈ l, inS s) (i j : Int) : implf75 K l [i, j] = some (if er l ≠ 0 then er l else if ix l i ∧ ix l j then 0 else 4) := by
  unfold implf75
  rw [f31 K hK l hl]
  simp only [obS, ibne, cdec, cnot]
  by_cases h : er l = 0
  · rw [if_pos h, if_neg (fun g => g h)]
    have hlen : l.length ≤ 12 := (er_ok.1 h).1
    have hw : IntKind.i64.wrap ((l.length : Int) - 1) = (l.length : Int) - 1 := wrapI (by omega) (by omega)
    obtain ⟨k, rfl⟩ : ∃ k, K = k + 3 := ⟨K - 3, by omega⟩
    rw [impll75_0, implb75_0]
    simp only [w60, obS, cdec, cnot, hw]
    rw [if_pos (by simp), if_pos (by simp)]
    have e : ([i, j] : List Int).getD (0 : Int).toNat 0 = i := rfl
    rw [e]
    by_cases g : ix l i
    · rw [if_pos (show 0 ≤ i ∧ i ≤ (l.length : Int) - 1 from g), show IntKind.i64.wrap ((0 : Int) + 1) = 1 by decide, impll75_0, implb75_0]
      simp only [w60, obS, cdec, cnot, hw]
      rw [if_pos (by simp), if_pos (by simp)]
      have e : ([i, j] : List Int).getD (1 : Int).toNat 0 = j := rfl
      rw [e]
      by_cases g2 : ix l j
      · rw [if_pos (show ix l i ∧ ix l j from ⟨g, g2⟩), if_pos (show 0 ≤ j ∧ j ≤ (l.length : Int) - 1 from g2), show IntKind.i64.wrap ((1 : Int) + 1) = 2 by decide, impll75_0, implb75_0]
        simp only [cdec]
        rw [if_neg (by simp)]
        rfl
      · rw [if_neg (show ¬ (ix l i ∧ ix l j) from fun x => g2 x.2), if_neg (show ¬ (0 ≤ j ∧ j ≤ (l.length : Int) - 1) from g2)]
        rfl
    · rw [if_neg (show ¬ (ix l i ∧ ix l j) from fun x => g x.1), if_neg (show ¬ (0 ≤ i ∧ i ≤ (l.length : Int) - 1) from g)]
      rfl
  · rw [if_neg h, if_pos h]
theorem f76 (K : Nat) (hK : 12 < K) (l : List Shf) (i : Int) : implf76 K l i = some (if er l ≠ 0 then er l else if ix l i then 0 else 4) := by
  unfold implf76
  rw [f25 K hK l]
  simp only [obS, ibne, cdec, cnot, w65]
  by_cases h : er l = 0
  · have hlen : l.length ≤ 12 := (er_ok.1 h).1
    have hw : IntKind.i64.wrap ((l.length : Int) - 1) = (l.length : Int) - 1 := wrapI (by omega) (by omega)
    rw [hw]
    simp only [h, ne_eq, not_true_eq_false, if_false, if_true]
    by_cases g : ix l i
    · rw [if_pos g, if_pos (show 0 ≤ i ∧ i ≤ (l.length : Int) - 1 from g)]
    · rw [if_neg g, if_neg (show ¬ (0 ≤ i ∧ i ≤ (l.length : Int) - 1) from g)]
  · simp only [h, ne_eq, not_false_eq_true, if_true, if_false]

noncomputable def ovl (l : List Shf) (i j : Int) : Bool × Int :=
  if er l ≠ 0 then (false, er l) else if ix l i ∧ ix l j then (decide (ov (l.getD i.toNat z3) (l.getD j.toNat z3)), 0) else (false, 4)
theorem f29 (K : Nat) (hK : 12 < K) (l : List Shf) (hl : ∀ s ∈ l, inS s) (i j : Int) : implf29 K l i j = some (ovl l i j) := by
  unfold implf29 ovl
  rw [show ((List.replicate 2 (0 : Int)).set 0 i).set 1 j = [i, j] from rfl, f75_2 K hK l hl]
  simp only [obS, ibne, cdec, cnot, f61]
  by_cases h : er l = 0
  · simp only [h, ne_eq, not_true_eq_false, if_false]
    by_cases g : ix l i ∧ ix l j
    · simp only [if_pos g, if_true]
      rw [if_pos (ix_iff.1 g.1), if_pos (ix_iff.1 g.2)]
    · simp only [if_neg g]
      rfl
  · simp only [h, ne_eq, not_false_eq_true, if_true, if_false]
theorem f30 (K : Nat) (hK : 12 < K) (l : List Shf) (i j : Int) : implf30 K l i j = some (ovl l i j) := by
  unfold implf30 ovl
  rw [f76 K hK, f76 K hK]
  simp only [obS, ibne, cdec, cnot]
  by_cases h : er l = 0
  · have hV := er_ok.1 h
    simp only [h, ne_eq, not_true_eq_false, if_false]
    by_cases g1 : ix l i
    · by_cases g2 : ix l j
      · simp only [g1, g2, if_true, and_self]
        have a := ix_iff.1 g1
        have b := ix_iff.1 g2
        rw [if_pos a, if_pos b, f66 K _ _ (hV.2 _ (getD_mem z3 (by omega))) (hV.2 _ (getD_mem z3 (by omega))), obS]
      · simp only [g1, g2, if_true, if_false, and_false]
        rfl
    · simp only [g1, if_false, false_and]
      rfl
  · simp only [h, ne_eq, not_false_eq_true, if_true, if_false]
end Go.Proofs.Ytbojnkcolamneaa
