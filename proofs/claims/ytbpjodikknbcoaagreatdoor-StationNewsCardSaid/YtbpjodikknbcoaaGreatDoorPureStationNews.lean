/- Which stations can be made, and what a nil station answers. -/
import Derived.Test.YtbpjodikknbcoaaGreatDoorMd5
import Derived.Test.YtbpjodikknbcoaaGreatDoorFStationNews
set_option maxRecDepth 100000
set_option linter.unusedVariables false
set_option linter.unusedSimpArgs false
namespace Go.Proofs.YtbpjodikknbcoaaGreatDoor
open Go Go.Pv
theorem book21b : implf21b KK () = some (ByteArray.mk #[]) := by
  have e : implf67 KK [] = some (bookB []) := write67' (fun o ho => by cases ho) (Nat.zero_le _)
  unfold implf21b
  show ob (implf67 KK []) _ = _
  rw [e]; rfl
theorem coreStationNews (k : KitT) (o : ByteArray) : ∃ K, implf15 K k o = some true := by
  refine ⟨KK, ?_⟩
  have w0 : IntKind.i64.wrap ((0 : Int) + 0) = 0 := wrapI (by omega) (by omega)
  unfold implf15
  rw [show implf34b KK () = some (0, 0) from rfl, show implf31b KK () o = some 1 from rfl, show implf56b KK () = some 0 from rfl, show implf57b KK () = some 0 from rfl, show implf37b KK () = some 0 from rfl, show implf33b KK () = some 0 from rfl, show implf58b KK () = some 0 from rfl, show implf38b KK () = some 0 from rfl, show implf59b KK () = some 0 from rfl, show implf60b KK () = some false from rfl, show implf55b KK () = some false from rfl, book21b]
  simp only [obS, w0, ibne, decide_true, Bool.not_true, cond_false, beqB, peta]
  by_cases hK : isLarge k
  · rw [large25, decide_eq_true hK, sane]; rfl
  · rw [large25, decide_eq_false hK]
    simp only [obS, cond_false]
    rw [s50a hK, s50b hK, s43a hK, s43b hK]
    by_cases he : errOf k = 0
    · simp only [if_pos he, oelN, obS, ibeq, decide_true, cond_true]
      rw [equal41 0 (reach_zero _ _ _), audit55 hK he (reach_zero _ _ _), sane]
      rfl
    · simp only [if_neg he, oelS, ibeq, decide_eq_false he, cond_false]
      rw [failed29 hK he]; rfl
theorem pureStationNews (x : (insOf tl [45, 9]).ty.den) (hw : wfAll tl [45, 9] x) : ∃ k, implf15 k x.1 x.2.1 = some true := coreStationNews x.1 x.2.1
end Go.Proofs.YtbpjodikknbcoaaGreatDoor
