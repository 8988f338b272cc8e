/- StationRefuses: the row and its tied card. -/
import Derived.Test.YtbpjodikknbcoaaGreatDoorCards
import Derived.Test.YtbpjodikknbcoaaGreatDoorTie
import Derived.Test.YtbpjodikknbcoaaGreatDoorLaw
import Derived.Test.YtbpjodikknbcoaaGreatDoorPureStationRefuses
import Derived.SevenTiedAt
import Derived.Test.YtbpjodikknbcoaaGreatDoorClosedStationRefuses
import Derived.Test.YtbpjodikknbcoaaGreatDoorTied
set_option maxRecDepth 100000
set_option linter.unusedVariables false
namespace Go.Proofs.YtbpjodikknbcoaaGreatDoor.stationRefuses
open Go Go.Pv Go.ChangeShapes Go.WideShapes Go.ChangeAt Go.RowKit
theorem lifted (os : Os) (started : os.Started) (H : Type) (enc : TypeId × Value → H) :
    ReturnsInHanded {} Tryz.checked os 10 .any (fun w args => (Rows.stationRefusesSpec.pre enc Tryz.prog Tryz.f10 [] false w args ∧ laidMetH Tryz.prog Rows.stationRefusesRow.laid w) ∧ sizedMet enc Tryz.prog Tryz.f10 (OpenSpec.ofChange Rows.stationRefusesSpec) false w args)
      (Rows.stationRefusesSpec.post enc Tryz.prog Tryz.f10 false true false false) :=
  law_laid started (by kernel_rfl) Tryz.func10
    (ChangeSpec.witness_shaped (enc := enc) (C := Tryz.checked) (os := os) (X := fun w _ => laidMetH Tryz.prog laidL w) false (laidWorld os) #[.agg #[.slice none 0 0, .slice none 0 0, .slice none 0 0, .slice none 0 0], .slice none 0 0, .string ByteArray.empty] 8 (laidWorld_os os)
      (World.shaped_of_ZipB (by kernel_rfl) (by kernel_rfl)) (by kernel_rfl) (by kernel_rfl) (by kernel_rfl) (laidWorld_met os _))
    rfl rfl Tryz.underlying4 (ts := [45, 26, 9]) rfl (by kernel_rfl) (by kernel_rfl)
    (fun ds h => match ds, h with | [d0, d1, d2], _ => rfl) (fun k x => implf10 k x.1 x.2.1 x.2.2.1) () (fun k => e10_ok k) pureStationRefuses
theorem over : Rows.stationRefusesRow.holds Tryz.pinned (OpenSpec.ofChange Rows.stationRefusesSpec) :=
  OpenClaim.holds_of_wide 10 Tryz.f10 rfl rfl rfl rfl rfl rfl rfl ⟨rfl, rfl, rfl, rfl, rfl⟩ rfl rfl rfl rfl rfl (by kernel_rfl) Tryz.func10 closed
    (of_decide_eq_true (by kernel_rfl)) (by unfold Func.isWrapper; first | (rw [if_pos (by decide +kernel)]; kernel_rfl) | (rw [if_neg (by decide +kernel)]; exact ⟨rfl, rfl⟩))
    (fun os started H enc _ => lifted os started H enc)
theorem goes : false = Rows.stationRefusesRow.goesBy Tryz.pinned.checked.prog := by kernel_rfl
theorem wfText : Rows.stationRefusesRow.wfByText (OpenSpec.ofChange Rows.stationRefusesSpec) = true := by kernel_rfl
theorem named : Tryz.prog.funcNamed "diaphone/diaphonelaw09.StationRefuses" = some 10 := by kernel_rfl
theorem card : Rows.StationRefusesCardSaid :=
  Claim7.holds_tied_plain_at .later [] [.data, .data, .data, .handle, .sentinel, .sentinel] true (true, "3715c025972e12dc452a229855ecac83c1980c2c474f2d43d3e4154c200332c2") true
    over (fun _ h => by cases h) wfText (fun _ h => by cases h) stationRefuses_row_tie rfl ⟨rfl, rfl⟩ tied_main rfl
    (fun f fn hf hfn => by
      obtain rfl : f = 10 := Option.some.inj (named.symm.trans hf) |>.symm
      obtain rfl : fn = Tryz.f10 := (Option.some.inj (Tryz.func10.symm.trans hfn)).symm
      exact ⟨tied_looks, fun j t ht => by
        have hm : t ∈ ([45, 26, 9] : List Nat) := by
          have := Array.mem_of_getElem? ht
          rw [Tryz.params10] at this
          simpa using this
        simp only [List.mem_cons, List.not_mem_nil, or_false] at hm
        rcases hm with rfl | rfl | rfl
        · exact tied_want45
        · exact tied_want26
        · exact tied_want9⟩)
    goes
#print axioms card
end Go.Proofs.YtbpjodikknbcoaaGreatDoor.stationRefuses
namespace Go.Proofs.YtbpjodikknbcoaaGreatDoor
/-- The card, under a short name, for the claim. -/
theorem stationRefuses_holds : Rows.StationRefusesCardSaid := stationRefuses.card
end Go.Proofs.YtbpjodikknbcoaaGreatDoor
