/- RelayCounts: what is to be shown of the readings. -/
import Derived.Test.YthdmngalhppkcaaM4
set_option linter.unusedVariables false
set_option linter.unusedSimpArgs false
namespace Go.Proofs.Ythdmngalhppkcaa
open Go Go.Pv Classical

/-- The sum of the first o counts. -/
noncomputable def cs (b : Bx) (n : Int) : Nat → Int
  | 0 => 0
  | o + 1 => cs b n o + S b (it b n.toNat) o b.1.length

theorem cnt_of {b : Bx} (hv : V b) {n : Int} (hn : 0 ≤ n ∧ n ≤ 20) {o : Int} (ho : 0 ≤ o ∧ o ≤ 3) : cnt b n o = (S b (it b n.toNat) o b.1.length, 0) := by
  unfold cnt; rw [if_pos hv, if_pos hn, if_pos ho]

theorem cs_in {b : Bx} (hv : V b) {n : Int} (hn : 0 ≤ n ∧ n ≤ 20) : ∀ o : Nat, 0 ≤ cs b n o ∧ cs b n o ≤ o * 1048576
  | 0 => by simp [cs]
  | o + 1 => by
    have ih := cs_in hv hn o
    have hq := it_Q hv n.toNat
    have h := S_in (b := b) hq (o : Int) (Nat.le_refl _)
    have ht := sum_take_le b.1.length hq.nn
    rw [hq.sum] at ht
    have hp := (pow20 (k := n.toNat) (by omega)).2
    simp only [cs]
    have : ((o + 1 : Nat) : Int) * 1048576 = (o : Int) * 1048576 + 1048576 := by omega
    omega

theorem l4 (K : Nat) (hK : 30 ≤ K) {b : Bx} (hv : V b) {n : Int} (hn : 0 ≤ n ∧ n ≤ 20) : impll4_0 K K n b 0 0 = some (.inl (cs b n 4, 4, ())) := by
  have h := upto (fun k (t : Int × Int) => impll4_0 K k n b t.1 t.2) (fun j => (cs b n j, (j : Int))) 4
    (.inl (cs b n 4, 4, ())) (fun k j hj => by
      show impll4_0 K (k + 1) n b (cs b n j) j = impll4_0 K k n b (cs b n (j + 1)) ((j + 1 : Nat) : Int)
      rw [impll4_0, implb4_0]
      have hq := it_Q hv n.toNat
      have h := S_in (b := b) hq (j : Int) (Nat.le_refl _)
      have ht := sum_take_le b.1.length hq.nn
      rw [hq.sum] at ht
      have hp := (pow20 (k := n.toNat) (by omega)).2
      have hc := cs_in hv hn j
      simp only [cdec, ibne, cnot]
      rw [if_pos (by omega), f24 K hK, cnt_of hv hn (by omega)]
      simp only [obS, if_true]
      rw [if_neg (by omega), wrapS (by omega), wrapI (by omega) (by omega)]
      rfl) (fun k => by
      show impll4_0 K (k + 1) n b (cs b n 4) ((4 : Nat) : Int) = _
      rw [impll4_0, implb4_0]
      simp only [cdec]
      rw [if_neg (by omega)]
      rfl) K 0 (by omega) (by omega)
  exact h

theorem wrapU {n : Int} (h : 0 ≤ n ∧ n ≤ 20) : IntKind.u64.wrap n = n := by
  unfold IntKind.wrap
  simp only [IntKind.signed, IntKind.bits, Bool.false_and, Bool.false_eq_true, if_false]
  omega

theorem coreCounts (b : Bx) (n o : Int) : implf4 300 b n o = some true := by
  unfold implf4
  rw [f19 300 b [] (by simp) (by simp)]
  simp only [obS, cdec]
  by_cases hl : lng b []
  · rw [if_pos hl, sane_ok]; rfl
  · rw [if_neg hl, f24 300 (by omega), f25 300 (by omega)]
    simp only [obS, ibne, ibeq, cnot, cdec, if_true]
    by_cases h : (cnt b n o).2 = 0
    · rw [if_pos h]
      have hv : V b := by
        rcases Classical.em (V b) with h' | h'
        · exact h'
        · unfold cnt at h; rw [if_neg h'] at h; cases h
      have hn : 0 ≤ n ∧ n ≤ 20 := by
        rcases Classical.em (0 ≤ n ∧ n ≤ 20) with h' | h'
        · exact h'
        · unfold cnt at h; rw [if_pos hv, if_neg h'] at h; cases h
      rw [l4 300 (by omega) hv hn]
      simp only [obS]
      have hp := pow20 (k := n.toNat) (by omega)
      have hq := it_Q hv n.toNat
      have hall := S_all hv hq (Nat.le_refl _)
      rw [List.take_of_length_le (by rw [hq.len]; exact Nat.le_refl _), hq.sum] at hall
      have hsum : cs b n 4 = 2 ^ n.toNat := by
        rw [← hall]
        simp only [cs]
        show 0 + S b (it b n.toNat) 0 b.1.length + S b (it b n.toNat) 1 b.1.length + S b (it b n.toNat) 2 b.1.length + S b (it b n.toNat) 3 b.1.length = _
        omega
      have hmin : min n.toNat IntKind.i64.bits = n.toNat := Nat.min_eq_left (by show n.toNat ≤ 64; omega)
      rw [wrapU hn, if_neg (by omega), hmin, Int.one_mul, wrapI (by omega) (by omega), if_pos hsum, sane_ok]
      rfl
    · rw [if_neg h, sane_ok]; rfl

theorem pureRelayCounts : ∀ x, wfAll tl [25, 3, 3] x → ∃ k, implf4 k x.1 x.2.1 x.2.2.1 = some true := fun x _ => ⟨300, coreCounts x.1 x.2.1 x.2.2.1⟩

end Go.Proofs.Ythdmngalhppkcaa
