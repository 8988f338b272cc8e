/- Which texts are books of a station. -/
import Derived.Test.YtbpjodikknbcoaaGreatDoorMd5
import Derived.Test.YtbpjodikknbcoaaGreatDoorFStationBooks
set_option maxRecDepth 100000
set_option linter.unusedVariables false
set_option linter.unusedSimpArgs false
namespace Go.Proofs.YtbpjodikknbcoaaGreatDoor
open Go Go.Pv
theorem coreStationBooks (k : KitT) (text : ByteArray) : ∃ K, implf13 K k text = some true := by
  by_cases hK : isLarge k
  · exact ⟨0 + 60, large_front 0 hK⟩
  · refine ⟨KK, ?_⟩
    have hs := sane
    unfold implf13
    rw [large25, decide_eq_false hK, hs]
    simp only [obS, cond_false, peta, cdec]
    by_cases h1 : (text.size : Int) > 20000
    · rw [if_pos h1]
    · rw [if_neg h1]
      obtain ⟨l, rest, e1, e2, hn, hl, -⟩ := read_all text (by omega)
      have r1 := rep24 hK e1 hl hn
      have r2 := rep54 hK e2 hl hn
      cases hr : repF k l rest with
      | inl p =>
        obtain ⟨i, e⟩ := p
        rw [r1.1 i e hr, r2.1 i e hr]
        simp only [oelS, ibne, decide_true, Bool.not_true, cond_false, cnot, cdec]
        by_cases h0 : e = 0
        · exfalso
          unfold repF at hr
          split at hr
          · split at hr
            · split at hr
              · cases hr
              · rename_i i' e' hp
                cases hr
                have : ∀ (l : List ByteArray) (i : Nat) (x : Sv) (j : Nat) (e : Int), playF k.2.1 k.2.2 (needF k.1) l i x = .inr (j, e) → e ≠ 0 := by
                  intro l
                  induction l with
                  | nil => intro i x j e h; cases h
                  | cons o r ih =>
                    intro i x j e h
                    have h : (if (doF k.2.1 k.2.2 (needF k.1) o x).1 = 0 then playF k.2.1 k.2.2 (needF k.1) r (i + 1) (doF k.2.1 k.2.2 (needF k.1) o x).2 else .inr (i, (doF k.2.1 k.2.2 (needF k.1) o x).1)) = .inr (j, e) := h
                    by_cases c : (doF k.2.1 k.2.2 (needF k.1) o x).1 = 0
                    · rw [if_pos c] at h; exact ih _ _ _ _ h
                    · rw [if_neg c] at h; cases h; exact c
                exact this _ _ _ _ _ hp h0
            · cases hr; cases h0
          · rename_i hne; cases hr; exact hne h0
        · rw [if_neg h0]; simp
      | inr y =>
        obtain ⟨a1, a2⟩ := r1.2 y hr
        obtain ⟨b1, b2⟩ := r2.2 y hr
        rw [a1, a2, b1, b2]
        obtain ⟨-, -, hR, -⟩ := reach_rep hr
        simp only [oelN, obS, ibne, decide_true, Bool.not_true, cond_false]
        rw [equal41 0 hR]
        rfl
theorem pureStationBooks (x : (insOf tl [45, 9]).ty.den) (hw : wfAll tl [45, 9] x) : ∃ k, implf13 k x.1 x.2.1 = some true := coreStationBooks x.1 x.2.1
end Go.Proofs.YtbpjodikknbcoaaGreatDoor
