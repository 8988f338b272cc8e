/- The shifts: which are right. -/
import Derived.Test.YtbojnkcolamneaaF6
set_option linter.unusedVariables false
set_option linter.unusedSimpArgs false
namespace Go.Proofs.Ytbojnkcolamneaa
open Go Go.Pv Classical

abbrev Shf := Int × Int × Int
/-- A shift is right. -/
def okS (s : Shf) : Prop := 0 ≤ s.1 ∧ s.1 < s.2.1 ∧ s.2.1 ≤ 1000 ∧ 0 ≤ s.2.2 ∧ s.2.2 ≤ 99
/-- Numbers of the machine. -/
def inI (n : Int) : Prop := -9223372036854775808 ≤ n ∧ n ≤ 9223372036854775807
def inS (s : Shf) : Prop := inI s.1 ∧ inI s.2.1 ∧ inI s.2.2
/-- The shifts are right. -/
def V (l : List Shf) : Prop := l.length ≤ 12 ∧ ∀ s ∈ l, okS s
noncomputable def er (l : List Shf) : Int := if 12 < l.length then 3 else if ∀ s ∈ l, okS s then 0 else 1
theorem er_ok {l : List Shf} : er l = 0 ↔ V l := by
  unfold er V
  by_cases h : 12 < l.length
  · rw [if_pos h]; constructor
    · intro h; cases h
    · rintro ⟨h1, _⟩; omega
  · rw [if_neg h]
    by_cases h2 : ∀ s ∈ l, okS s
    · rw [if_pos h2]; exact ⟨fun _ => ⟨by omega, h2⟩, fun _ => rfl⟩
    · rw [if_neg h2]; constructor
      · intro h; cases h
      · rintro ⟨_, h3⟩; exact absurd h3 h2

theorem wf_int {n : Int} (h : Ty.wf (.int .i64) n) : inI n := by
  have h : (Lit.int .i64 n).wf = true := h
  have h : (decide (-9223372036854775808 ≤ n) && decide (n ≤ 9223372036854775807)) = true := h
  simp only [Bool.and_eq_true, decide_eq_true_eq] at h
  exact h
theorem wf_shf {s : Shf} (h : Ty.wf (.pr (.int .i64) (.pr (.int .i64) (.int .i64))) s) : inS s := ⟨wf_int h.1, wf_int h.2.1, wf_int h.2.2⟩

theorem w60 (K : Nat) (x lo hi : Int) : implf60 K x lo hi = some (decide (lo ≤ x ∧ x ≤ hi)) := by
  unfold implf60
  by_cases h : lo ≤ x <;> simp [h]
theorem w65 (K : Nat) (x lo hi : Int) : implf65 K x lo hi = some (decide (lo ≤ x ∧ x ≤ hi)) := by
  unfold implf65
  by_cases h : lo ≤ x <;> simp [h]

theorem f77 (K : Nat) (s : Shf) (hs : inS s) : implf77 K s = some (decide (okS s)) := by
  unfold implf77
  simp only [w60, obS, cdec]
  obtain ⟨h1, h2, h3⟩ := hs
  unfold inI at h1 h2 h3
  by_cases g : s.2.1 = -9223372036854775808
  · have hno : ¬ okS s := fun h => by unfold okS at h; omega
    rw [decide_eq_false hno, if_neg (c := (1 : Int) ≤ s.2.1 ∧ s.2.1 ≤ 1000) (by omega)]
    simp
  · rw [wrapI (by omega) (by omega)]
    by_cases a : (0 : Int) ≤ s.1 ∧ s.1 ≤ s.2.1 - 1
    · rw [if_pos a]
      by_cases b : (1 : Int) ≤ s.2.1 ∧ s.2.1 ≤ 1000
      · rw [if_pos b]
        congr 1
        have : ((0 : Int) ≤ s.2.2 ∧ s.2.2 ≤ 99) ↔ okS s := by unfold okS; omega
        simp only [this]
      · rw [if_neg b, decide_eq_false (show ¬ okS s from fun h => by unfold okS at h; omega)]
    · rw [if_neg a, decide_eq_false (show ¬ okS s from fun h => by unfold okS at h; omega)]

theorem f72 (K : Nat) (s : Shf) : implf72 K s = some (decide (okS s)) := by
  unfold implf72
  simp only [w65, obS, cdec]
  by_cases a : s.1 ≥ 0
  · rw [if_pos a]
    by_cases b : s.2.1 ≤ 1000
    · rw [if_pos b]
      by_cases c : s.1 < s.2.1
      · rw [if_pos c]
        congr 1
        have : ((0 : Int) ≤ s.2.2 ∧ s.2.2 ≤ 99) ↔ okS s := by unfold okS; omega
        simp only [this]
      · rw [if_neg c, decide_eq_false (show ¬ okS s from fun h => by unfold okS at h; omega)]
    · rw [if_neg b, decide_eq_false (show ¬ okS s from fun h => by unfold okS at h; omega)]
  · rw [if_neg a, decide_eq_false (show ¬ okS s from fun h => by unfold okS at h; omega)]

theorem all_getD {α : Type} {l : List α} (d : α) (p : α → Prop) : (∀ i, 0 ≤ i → i < l.length → p (l.getD i d)) ↔ ∀ s ∈ l, p s := by
  constructor
  · intro h s hs
    obtain ⟨i, hi, e⟩ := List.getElem_of_mem hs
    have := h i (Nat.zero_le _) hi
    rwa [show l.getD i d = s by simp [List.getD, hi, e]] at this
  · exact fun h i _ hi => h _ (getD_mem d hi)

abbrev z3 : Shf := (0, 0, 0)
theorem f31 (K : Nat) (hK : 12 < K) (l : List Shf) (hl : ∀ s ∈ l, inS s) : implf31 K l = some (er l) := by
  unfold implf31 er
  simp only [cdec]
  by_cases h : 12 < l.length
  · rw [if_pos (by omega), if_pos h]
  · rw [if_neg (by omega), if_neg h]
    have := uptoAll (fun k (j : Nat) => impll31_0 K k l (l.length : Int) (j : Int)) (fun j => j) l.length (fun j => okS (l.getD j z3)) (.inl ((l.length : Int), ())) (.inr 1)
      (fun k j hj hp => by
        show impll31_0 K (k + 1) l _ j = impll31_0 K k l _ ((j + 1 : Nat) : Int)
        rw [impll31_0, implb31_0]
        have hin := hl _ (getD_mem z3 hj)
        have e : l.getD (j : Int).toNat ((0 : Int), (0 : Int), (0 : Int)) = l.getD j z3 := rfl
        simp only [cdec, cnot]
        rw [if_pos (by omega), if_pos (by omega)]
        rw [e, f77 K _ hin, obS, decide_eq_true hp]
        simp only [cond_true]
        rw [wrapS (by omega)])
      (fun k j hj hp => by
        show impll31_0 K (k + 1) l _ j = _
        rw [impll31_0, implb31_0]
        have hin := hl _ (getD_mem z3 hj)
        have e : l.getD (j : Int).toNat ((0 : Int), (0 : Int), (0 : Int)) = l.getD j z3 := rfl
        simp only [cdec, cnot]
        rw [if_pos (by omega), if_pos (by omega)]
        rw [e, f77 K _ hin, obS, decide_eq_false hp]
        rfl)
      (fun k => by
        show impll31_0 K (k + 1) l _ l.length = _
        rw [impll31_0, implb31_0]
        simp only [cdec]
        rw [if_neg (by omega)]) K 0 (by omega) (Nat.zero_le _)
    simp only [Int.natCast_zero] at this
    rw [this, obS]
    have hq := all_getD (l := l) z3 okS
    by_cases h2 : ∀ s ∈ l, okS s
    · rw [if_pos (hq.2 h2), if_pos h2]
    · rw [if_neg (fun h3 => h2 (hq.1 h3)), if_neg h2]

theorem f25 (K : Nat) (hK : 12 < K) (l : List Shf) : implf25 K l = some (er l) := by
  unfold implf25 er
  simp only [cdec]
  by_cases h : 12 < l.length
  · rw [if_pos (by omega), if_pos h]
  · rw [if_neg (by omega), if_neg h]
    have := uptoAll (fun k (j : Nat) => impll25_0 K k l (j : Int)) (fun j => j) l.length (fun j => okS (l.getD j z3)) (.inl ((l.length : Int), ())) (.inr 1)
      (fun k j hj hp => by
        show impll25_0 K (k + 1) l j = impll25_0 K k l ((j + 1 : Nat) : Int)
        rw [impll25_0, implb25_0]
        have e : l.getD (j : Int).toNat ((0 : Int), (0 : Int), (0 : Int)) = l.getD j z3 := rfl
        simp only [cdec, cnot]
        rw [if_pos (by omega), if_pos (by omega)]
        rw [e, f72 K _, obS, decide_eq_true hp]
        simp only [cond_true]
        rw [wrapS (by omega)])
      (fun k j hj hp => by
        show impll25_0 K (k + 1) l j = _
        rw [impll25_0, implb25_0]
        have e : l.getD (j : Int).toNat ((0 : Int), (0 : Int), (0 : Int)) = l.getD j z3 := rfl
        simp only [cdec, cnot]
        rw [if_pos (by omega), if_pos (by omega)]
        rw [e, f72 K _, obS, decide_eq_false hp]
        rfl)
      (fun k => by
        show impll25_0 K (k + 1) l l.length = _
        rw [impll25_0, implb25_0]
        simp only [cdec]
        rw [if_neg (by omega)]) K 0 (by omega) (Nat.zero_le _)
    simp only [Int.natCast_zero] at this
    rw [this, obS]
    have hq := all_getD (l := l) z3 okS
    by_cases h2 : ∀ s ∈ l, okS s
    · rw [if_pos (hq.2 h2), if_pos h2]
    · rw [if_neg (fun h3 => h2 (hq.1 h3)), if_neg h2]

/-- Is something too long? -/
def lng (l : List Shf) (ls : List (List Int)) : Prop := (∃ x ∈ ls, 100 < x.length) ∨ 50 < l.length
theorem f19_0 (K : Nat) (hK : 1 < K) (l : List Shf) : implf19 K l [] = some (decide (lng l [])) := by
  unfold implf19
  obtain ⟨k, rfl⟩ : ∃ k, K = k + 1 := ⟨K - 1, by omega⟩
  rw [impll19_0, implb19_0]
  simp only [cdec]
  rw [if_neg (by simp), obS]
  show some (decide ((l.length : Int) > 50)) = _
  congr 1
  have : ((l.length : Int) > 50) ↔ lng l [] := by
    unfold lng
    simp
    omega
  simp only [this]
theorem f19_1 (K : Nat) (hK : 2 < K) (l : List Shf) (x : List Int) : implf19 K l [x] = some (decide (lng l [x])) := by
  unfold implf19
  obtain ⟨k, rfl⟩ : ∃ k, K = k + 2 := ⟨K - 2, by omega⟩
  rw [impll19_0, implb19_0]
  simp only [cdec]
  rw [if_pos (by simp), if_pos (by simp)]
  have e : ([x] : List (List Int)).getD (0 : Int).toNat [] = x := rfl
  rw [e]
  by_cases h : (x.length : Int) > 100
  · rw [if_pos h, obS]
    show some true = _
    rw [decide_eq_true (show lng l [x] from .inl ⟨x, by simp, by omega⟩)]
  · rw [if_neg h, show IntKind.i64.wrap ((0 : Int) + 1) = 1 by decide, impll19_0, implb19_0]
    simp only [cdec]
    rw [if_neg (by simp), obS]
    show some (decide ((l.length : Int) > 50)) = _
    congr 1
    have : ((l.length : Int) > 50) ↔ lng l [x] := by
      unfold lng
      simp
      omega
    simp only [this]

set_option maxRecDepth 100000 in
theorem sane_ok : implf20 5000 = some true := by kernel_rfl
end Go.Proofs.Ytbojnkcolamneaa
