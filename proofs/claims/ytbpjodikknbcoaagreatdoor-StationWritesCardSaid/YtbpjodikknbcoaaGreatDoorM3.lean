/- Books read, and two of them laid together. -/
import Derived.Test.YtbpjodikknbcoaaGreatDoorM2
set_option maxRecDepth 100000
set_option linter.unusedVariables false
set_option linter.unusedSimpArgs false
namespace Go.Proofs.YtbpjodikknbcoaaGreatDoor
open Go Go.Pv

/-- A reader. -/
noncomputable def rdL : Nat → ByteArray → List ByteArray → Int → Option (ByteArray × List ByteArray × Int × Unit)
  | 0, _, _, _ => none
  | k + 1, x, acc, s => rdB (rdL k) x acc s
theorem rdB_congr {rc rc' : ByteArray → List ByteArray → Int → Option (ByteArray × List ByteArray × Int × Unit)} {x : ByteArray} {acc : List ByteArray} {s : Int}
    (h : ∀ x' acc' s', x'.size ≤ x.size → rc x' acc' s' = rc' x' acc' s') : rdB rc x acc s = rdB rc' x acc s := by
  unfold rdB
  split
  · split
    · rfl
    · rename_i o r s' hr
      exact h _ _ _ (by rw [size_mk]; have := (rdStep_len hr).1; rw [by_len] at this; omega)
  · rfl
theorem eq19 : ∀ (k : Nat) (x : ByteArray) (acc : List ByteArray) (s : Int), x.size ≤ 100000 → impll19_0 KK k x acc s = rdL k x acc s
  | 0, _, _, _, _ => rfl
  | k + 1, x, acc, s, hx => by
    show implb19_0 KK (impll19_0 KK k) x acc s = rdB (rdL k) x acc s
    rw [step19 _ x acc s hx]
    exact rdB_congr fun x' acc' s' h => eq19 k x' acc' s' (by omega)
theorem eq44 : ∀ (k : Nat) (x : ByteArray) (acc : List ByteArray) (s : Int), x.size ≤ 100000 → impll44_0 KK k x acc s = rdL k x acc s
  | 0, _, _, _, _ => rfl
  | k + 1, x, acc, s, hx => by
    show implb44_0 KK (impll44_0 KK k) x acc s = rdB (rdL k) x acc s
    rw [step44 _ x acc s hx]
    exact rdB_congr fun x' acc' s' h => eq44 k x' acc' s' (by omega)
theorem rdL_some : ∀ (k : Nat) (x : ByteArray) (acc : List ByteArray) (s : Int), acc.length ≤ 100 → 100 < k + acc.length → ∃ y : ByteArray × List ByteArray × Int × Unit, rdL k x acc s = some y ∧ y.2.1.length ≤ 100
  | 0, _, _, _, h1, h2 => by omega
  | k + 1, x, acc, s, h1, h2 => by
    show ∃ y : ByteArray × List ByteArray × Int × Unit, rdB (rdL k) x acc s = some y ∧ _
    unfold rdB
    split
    · split
      · exact ⟨_, rfl, h1⟩
      · exact rdL_some k _ _ _ (by simp; omega) (by simp; omega)
    · exact ⟨_, rfl, h1⟩
/-- What a book's reader gives. -/
theorem read_both (x : ByteArray) (hx : x.size ≤ 100000) : ∃ y : List ByteArray × ByteArray, implf19 KK x = some y ∧ implf44 KK x = some y ∧ y.1.length ≤ 100 := by
  obtain ⟨y, e, hy⟩ := rdL_some KK x [] 0 (by simp) (by show 100 < 1000000 + 0; omega)
  refine ⟨(y.2.1, y.1), ?_, ?_, hy⟩
  · unfold implf19; rw [eq19 _ _ _ _ hx, e]; rfl
  · unfold implf44; rw [eq44 _ _ _ _ hx, e]; rfl

theorem merge_loop (x1 x2 : ByteArray) (l m : List ByteArray) (hl : l.length ≤ 100) (hm : m.length ≤ 100) : ∀ (d j k : Nat), min l.length m.length - j = d → j ≤ min l.length m.length → d < k →
    ∃ r, impll23_0 KK k x1 x2 l m (min (l.length : Int) (m.length : Int)) (j : Int) = some r ∧ impll52_0 KK k x1 x2 l m (j : Int) = some r
  | d, j, 0, _, _, h => by omega
  | d, j, k + 1, hd, hj, hk => by
    show ∃ r, implb23_0 KK (impll23_0 KK k) x1 x2 l m _ _ = some r ∧ implb52_0 KK (impll52_0 KK k) x1 x2 l m _ = some r
    unfold implb23_0 implb52_0
    simp only [cdec]
    by_cases h : j < min l.length m.length
    · rw [if_pos (by omega), if_pos (by omega), if_pos (by omega), if_pos (by omega), if_pos (by omega), if_pos (by omega), if_pos (by omega)]
      simp only [beqB, cnot, cdec]
      rw [wrapS (by omega)]
      by_cases he : l.getD (j : Int).toNat ByteArray.empty = m.getD (j : Int).toNat ByteArray.empty
      · rw [if_pos he, if_pos he]
        exact merge_loop x1 x2 l m hl hm (d - 1) (j + 1) k (by omega) (by omega) (by omega)
      · rw [if_neg he, if_neg he]
        exact ⟨_, rfl, rfl⟩
    · rw [if_neg (by omega)]
      by_cases h1 : (j : Int) < l.length
      · rw [if_pos h1, if_neg (by omega)]; exact ⟨_, rfl, rfl⟩
      · rw [if_neg h1]; exact ⟨_, rfl, rfl⟩

theorem merge_both (a b : ByteArray) (ha : a.size ≤ 100000) (hb : b.size ≤ 100000) : ∃ y, implf23 KK a b = some y ∧ implf52 KK a b = some y := by
  obtain ⟨y1, e1, f1, h1⟩ := read_both a ha
  obtain ⟨y2, e2, f2, h2⟩ := read_both b hb
  unfold implf23 implf52
  rw [e1, e2, f1, f2]
  simp only [obS]
  obtain ⟨r, g1, g2⟩ := merge_loop a b y1.1 y2.1 h1 h2 _ 0 KK rfl (Nat.zero_le _) (by show _ < 1000000; omega)
  have g1 : impll23_0 KK KK a b y1.1 y2.1 (min (y1.1.length : Int) (y2.1.length : Int)) 0 = some r := g1
  have g2 : impll52_0 KK KK a b y1.1 y2.1 0 = some r := g2
  rw [g1, g2]
  simp only [obS, beqB]
  by_cases c1 : y1.2 = ByteArray.mk #[]
  · by_cases c2 : y2.2 = ByteArray.mk #[]
    · simp only [c1, c2, decide_true, Bool.not_true, cond_false]
      cases r with
      | inl z => dsimp only; cases decide ((y2.1.length : Int) > (y1.1.length : Int)) <;> exact ⟨_, rfl, rfl⟩
      | inr z => exact ⟨_, rfl, rfl⟩
    · simp only [c1, c2, decide_true, decide_false, Bool.not_true, Bool.not_false, cond_false, cond_true]
      exact ⟨_, rfl, rfl⟩
  · simp only [c1, decide_false, Bool.not_false, cond_true]
    exact ⟨_, rfl, rfl⟩
end Go.Proofs.YtbpjodikknbcoaaGreatDoor
