/- The mathematics of stations, part 2. -/
import Derived.Test.YtbpjodikknbcoaaGreatDoorMs1
import Derived.Lib.IndexBytes
import Derived.Lib.ItoaNum
import Derived.Lib.AtoiAll
import Derived.Lib.AtoiTie
import Derived.KernelRfl
import Derived.Lib.AtoiAllCases
set_option maxRecDepth 1000000
set_option linter.unusedVariables false
set_option linter.unusedSimpArgs false
namespace Go.Proofs.YtbpjodikknbcoaaGreatDoor
open Go Go.Pv
def isDig (c : UInt8) : Bool := decide (48 ≤ c.toNat) && decide (c.toNat ≤ 57)
def valF (l : List UInt8) : Nat := l.foldl (fun n c => 10 * n + (c.toNat - 48)) 0
/-- The number of an order, as the document reads it. -/
def numF (l : List UInt8) : Option Nat :=
  if l.length < 1 ∨ 4 < l.length ∨ (l.head? = some 48 ∧ 1 < l.length) then none else if l.all isDig then some (valF l) else none

theorem valF_snoc (l : List UInt8) (c : UInt8) : valF (l ++ [c]) = 10 * valF l + (c.toNat - 48) := by simp [valF, List.foldl_append]
theorem digits_of : ∀ (l : List UInt8), l ≠ [] → (∀ c ∈ l, isDig c = true) → (l.head? ≠ some 48 ∨ l.length = 1) → Lib.decDigits (valF l) = l ∧ (l.head? ≠ some 48 → 0 < valF l) := by
  intro l
  induction hn : l.length using Nat.strongRecOn generalizing l with
  | _ n ih =>
    intro h0 hd hz
    rcases List.eq_nil_or_concat l with rfl | ⟨r, c, rfl⟩
    · exact absurd rfl h0
    · rw [List.concat_eq_append] at *
      have hc := hd c (by simp)
      simp only [isDig, Bool.and_eq_true, decide_eq_true_eq] at hc
      have hcu : UInt8.ofNat (48 + (c.toNat - 48)) = c := by
        rw [show 48 + (c.toNat - 48) = c.toNat by omega]; simp
      by_cases hr : r = []
      · subst hr
        have e : valF ([] ++ [c]) = c.toNat - 48 := by simp [valF]
        rw [e]
        constructor
        · unfold Lib.decDigits
          rw [dif_pos (by omega), hcu]; rfl
        · intro h
          have : c ≠ 48 := fun e => h (by rw [e]; rfl)
          have : c.toNat ≠ 48 := fun e => this (UInt8.toNat.inj e)
          omega
      · have hh : (r ++ [c]).head? = r.head? := by
          cases r with
          | nil => exact absurd rfl hr
          | cons a r => rfl
        have hz' : r.head? ≠ some 48 := by
          rcases hz with h | h
          · rw [hh] at h; exact h
          · exfalso
            have : r.length ≠ 0 := fun e => hr (List.length_eq_zero_iff.1 e)
            have hl := hn
            rw [List.length_append, List.length_singleton] at hl
            omega
        obtain ⟨h1, h2⟩ := ih r.length (by have := congrArg id hn; simp only [id, List.length_append, List.length_singleton] at this; omega) r rfl hr (fun x hx => hd x (by simp [hx])) (.inl hz')
        have hp := h2 hz'
        rw [valF_snoc]
        constructor
        · unfold Lib.decDigits
          rw [dif_neg (by omega), show (10 * valF r + (c.toNat - 48)) / 10 = valF r by omega, show (10 * valF r + (c.toNat - 48)) % 10 = c.toNat - 48 by omega, h1, hcu]
        · intro _; omega
def chk (n : Nat) : Bool := (match Lib.atoiAll (Lib.decDigits n) with | .ok v => decide (v = (n : Int)) | _ => false) && (match numF (Lib.decDigits n) with | some m => Nat.beq m n | none => false)
theorem chk_all : ((List.range 10000).all chk) = true := by kernel_rfl
theorem chk_at {n : Nat} (h : n < 10000) : Lib.atoiAll (Lib.decDigits n) = .ok (n : Int) ∧ numF (Lib.decDigits n) = some n := by
  have := List.all_eq_true.1 chk_all n (List.mem_range.2 h)
  unfold chk at this
  rw [Bool.and_eq_true] at this
  obtain ⟨h1, h2⟩ := this
  constructor
  · split at h1
    · rename_i v e; rw [e, of_decide_eq_true h1]
    · cases h1
  · split at h2
    · rename_i m e; rw [e, Nat.eq_of_beq_eq_true h2]
    · cases h2
theorem numF_digits {l : List UInt8} {n : Nat} (h : numF l = some n) : Lib.decDigits n = l ∧ n < 10000 := by
  unfold numF at h
  split at h
  · cases h
  · rename_i hc
    split at h
    · rename_i hd
      cases h
      have hd := List.all_eq_true.1 hd
      have h1 : ¬ l.length < 1 := fun e => hc (.inl e)
      have h2 : ¬ 4 < l.length := fun e => hc (.inr (.inl e))
      have h3 : l.head? ≠ some 48 ∨ l.length = 1 := by
        by_cases e : l.head? = some 48
        · right
          have : ¬ 1 < l.length := fun e2 => hc (.inr (.inr ⟨e, e2⟩))
          omega
        · exact .inl e
      refine ⟨(digits_of l (fun e => h1 (by rw [e]; decide)) hd h3).1, ?_⟩
      have bound : ∀ (l : List UInt8), (∀ c ∈ l, isDig c = true) → valF l < 10 ^ l.length := by
        intro l
        induction hn : l.length generalizing l with
        | zero =>
          intro _
          rw [List.length_eq_zero_iff.1 hn]; decide
        | succ n ih =>
          intro hd
          rcases List.eq_nil_or_concat l with rfl | ⟨r, c, rfl⟩
          · cases hn
          · rw [List.concat_eq_append] at hn hd ⊢
            have hr : r.length = n := by simpa using hn
            have := ih r hr (fun x hx => hd x (by simp [hx]))
            have hc := hd c (by simp)
            simp only [isDig, Bool.and_eq_true, decide_eq_true_eq] at hc
            rw [valF_snoc, Nat.pow_succ]
            omega
      have hb := bound l hd
      have : 10 ^ l.length ≤ 10 ^ 4 := Nat.pow_le_pow_right (by decide) (by omega)
      omega
    · cases h
/-- Atoi, and written again the same, and in range: the document's number. -/
theorem atoi_numF (l : List UInt8) : (∃ n : Int, Lib.atoiAll l = .ok n ∧ Lib.itoa n = l ∧ 0 ≤ n ∧ n ≤ 9999) ↔ ∃ n, numF l = some n := by
  constructor
  · rintro ⟨n, h1, h2, h3, h4⟩
    unfold Lib.itoa at h2
    rw [if_neg (by omega)] at h2
    refine ⟨n.toNat, ?_⟩
    rw [← h2]
    exact (chk_at (by omega)).2
  · rintro ⟨n, h⟩
    obtain ⟨h1, h2⟩ := numF_digits h
    refine ⟨n, ?_, ?_, by omega, by omega⟩
    · rw [← h1]; exact (chk_at h2).1
    · unfold Lib.itoa
      rw [if_neg (by omega)]; simpa using h1
theorem atoi_same {l : List UInt8} {n : Nat} (h : numF l = some n) : Lib.atoiAll l = .ok (n : Int) ∧ Lib.itoa (n : Int) = l ∧ n ≤ 9999 := by
  obtain ⟨h1, h2⟩ := numF_digits h
  refine ⟨by rw [← h1]; exact (chk_at h2).1, ?_, by omega⟩
  unfold Lib.itoa
  rw [if_neg (by omega)]; simpa using h1
end Go.Proofs.YtbpjodikknbcoaaGreatDoor
