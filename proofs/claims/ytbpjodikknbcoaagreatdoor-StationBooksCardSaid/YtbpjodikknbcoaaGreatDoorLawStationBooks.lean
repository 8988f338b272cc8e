/- StationBooks: the row and its tied card. -/
import Derived.Test.YtbpjodikknbcoaaGreatDoorCards
import Derived.Test.YtbpjodikknbcoaaGreatDoorTie
import Derived.Test.YtbpjodikknbcoaaGreatDoorLaw
import Derived.Test.YtbpjodikknbcoaaGreatDoorPureStationBooks
import Derived.SevenTiedAt
import Derived.Test.YtbpjodikknbcoaaGreatDoorClosedStationBooks
import Derived.Test.YtbpjodikknbcoaaGreatDoorTied
set_option maxRecDepth 100000
set_option linter.unusedVariables false
namespace Go.Proofs.YtbpjodikknbcoaaGreatDoor.stationBooks
open Go Go.Pv Go.ChangeShapes Go.WideShapes Go.ChangeAt Go.RowKit
theorem lifted (os : Os) (started : os.Started) (H : Type) (enc : TypeId × Value → H) :
    ReturnsInHanded {} Tryz.checked os 13 .any (fun w args => (Rows.stationBooksSpec.pre enc Tryz.prog Tryz.f13 [] false w args ∧ laidMetH Tryz.prog Rows.stationBooksRow.laid w) ∧ sizedMet enc Tryz.prog Tryz.f13 (OpenSpec.ofChange Rows.stationBooksSpec) false w args)
      (Rows.stationBooksSpec.post enc Tryz.prog Tryz.f13 false true false false) :=
  law_laid started (by kernel_rfl) Tryz.func13
    (ChangeSpec.witness_shaped (enc := enc) (C := Tryz.checked) (os := os) (X := fun w _ => laidMetH Tryz.prog laidL w) false (laidWorld os) #[.agg #[.slice none 0 0, .slice none 0 0, .slice none 0 0, .slice none 0 0], .string ByteArray.empty] 8 (laidWorld_os os)
      (World.shaped_of_ZipB (by kernel_rfl) (by kernel_rfl)) (by kernel_rfl) (by kernel_rfl) (by kernel_rfl) (laidWorld_met os _))
    rfl rfl Tryz.underlying4 (ts := [45, 9]) rfl (by kernel_rfl) (by kernel_rfl)
    (fun ds h => match ds, h with | [d0, d1], _ => rfl) (fun k x => implf13 k x.1 x.2.1) () (fun k => e13_ok k) pureStationBooks
theorem over : Rows.stationBooksRow.holds Tryz.pinned (OpenSpec.ofChange Rows.stationBooksSpec) :=
  OpenClaim.holds_of_wide 13 Tryz.f13 rfl rfl rfl rfl rfl rfl rfl ⟨rfl, rfl, rfl, rfl, rfl⟩ rfl rfl rfl rfl rfl (by kernel_rfl) Tryz.func13 closed
    (of_decide_eq_true (by kernel_rfl)) (by unfold Func.isWrapper; first | (rw [if_pos (by decide +kernel)]; kernel_rfl) | (rw [if_neg (by decide +kernel)]; exact ⟨rfl, rfl⟩))
    (fun os started H enc _ => lifted os started H enc)
theorem goes : false = Rows.stationBooksRow.goesBy Tryz.pinned.checked.prog := by kernel_rfl
theorem wfText : Rows.stationBooksRow.wfByText (OpenSpec.ofChange Rows.stationBooksSpec) = true := by kernel_rfl
theorem named : Tryz.prog.funcNamed "diaphone/diaphonelaw09.StationBooks" = some 13 := by kernel_rfl
theorem card : Rows.StationBooksCardSaid :=
  Claim7.holds_tied_plain_at .later [] [.data, .data, .data, .handle, .sentinel, .sentinel] true (true, "3715c025972e12dc452a229855ecac83c1980c2c474f2d43d3e4154c200332c2") true
    over (fun _ h => by cases h) wfText (fun _ h => by cases h) stationBooks_row_tie rfl ⟨rfl, rfl⟩ tied_main rfl
    (fun f fn hf hfn => by
      obtain rfl : f = 13 := Option.some.inj (named.symm.trans hf) |>.symm
      obtain rfl : fn = Tryz.f13 := (Option.some.inj (Tryz.func13.symm.trans hfn)).symm
      exact ⟨tied_looks, fun j t ht => by
        have hm : t ∈ ([45, 9] : List Nat) := by
          have := Array.mem_of_getElem? ht
          rw [Tryz.params13] at this
          simpa using this
        simp only [List.mem_cons, List.not_mem_nil, or_false] at hm
        rcases hm with rfl | rfl
        · exact tied_want45
        · exact tied_want9⟩)
    goes
#print axioms card
end Go.Proofs.YtbpjodikknbcoaaGreatDoor.stationBooks
namespace Go.Proofs.YtbpjodikknbcoaaGreatDoor
/-- The card, under a short name, for the claim. -/
theorem stationBooks_holds : Rows.StationBooksCardSaid := stationBooks.card
end Go.Proofs.YtbpjodikknbcoaaGreatDoor
