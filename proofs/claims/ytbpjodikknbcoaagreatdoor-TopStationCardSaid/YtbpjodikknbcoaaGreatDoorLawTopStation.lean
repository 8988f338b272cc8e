/- TopStation: the row and its tied card. -/
import Derived.Test.YtbpjodikknbcoaaGreatDoorCards
import Derived.Test.YtbpjodikknbcoaaGreatDoorTie
import Derived.Test.YtbpjodikknbcoaaGreatDoorLaw
import Derived.Test.YtbpjodikknbcoaaGreatDoorPureTopStation
import Derived.SevenTiedAt
import Derived.Test.YtbpjodikknbcoaaGreatDoorClosedTopStation
import Derived.Test.YtbpjodikknbcoaaGreatDoorTied
set_option maxRecDepth 100000
set_option linter.unusedVariables false
namespace Go.Proofs.YtbpjodikknbcoaaGreatDoor.topStation
open Go Go.Pv Go.ChangeShapes Go.WideShapes Go.ChangeAt Go.RowKit
theorem lifted (os : Os) (started : os.Started) (H : Type) (enc : TypeId × Value → H) :
    ReturnsInHanded {} Tryz.checked os 18 .any (fun w args => (Rows.topStationSpec.pre enc Tryz.prog Tryz.f18 [] false w args ∧ laidMetH Tryz.prog Rows.topStationRow.laid w) ∧ sizedMet enc Tryz.prog Tryz.f18 (OpenSpec.ofChange Rows.topStationSpec) false w args)
      (Rows.topStationSpec.post enc Tryz.prog Tryz.f18 false true false false) :=
  law_laid started (by kernel_rfl) Tryz.func18
    (ChangeSpec.witness_shaped (enc := enc) (C := Tryz.checked) (os := os) (X := fun w _ => laidMetH Tryz.prog laidL w) false (laidWorld os) #[.agg #[.slice none 0 0, .slice none 0 0, .slice none 0 0, .slice none 0 0], .slice none 0 0, .int .i64 0] 8 (laidWorld_os os)
      (World.shaped_of_ZipB (by kernel_rfl) (by kernel_rfl)) (by kernel_rfl) (by kernel_rfl) (by kernel_rfl) (laidWorld_met os _))
    rfl rfl Tryz.underlying4 (ts := [45, 26, 3]) rfl (by kernel_rfl) (by kernel_rfl)
    (fun ds h => match ds, h with | [d0, d1, d2], _ => rfl) (fun k x => implf18 k x.1 x.2.1 x.2.2.1) () (fun k => e18_ok k) pureTopStation
theorem over : Rows.topStationRow.holds Tryz.pinned (OpenSpec.ofChange Rows.topStationSpec) :=
  OpenClaim.holds_of_wide 18 Tryz.f18 rfl rfl rfl rfl rfl rfl rfl ⟨rfl, rfl, rfl, rfl, rfl⟩ rfl rfl rfl rfl rfl (by kernel_rfl) Tryz.func18 closed
    (of_decide_eq_true (by kernel_rfl)) (by unfold Func.isWrapper; first | (rw [if_pos (by decide +kernel)]; kernel_rfl) | (rw [if_neg (by decide +kernel)]; exact ⟨rfl, rfl⟩))
    (fun os started H enc _ => lifted os started H enc)
theorem goes : false = Rows.topStationRow.goesBy Tryz.pinned.checked.prog := by kernel_rfl
theorem wfText : Rows.topStationRow.wfByText (OpenSpec.ofChange Rows.topStationSpec) = true := by kernel_rfl
theorem named : Tryz.prog.funcNamed "diaphone/diaphonetop.TopStation" = some 18 := by kernel_rfl
theorem card : Rows.TopStationCardSaid :=
  Claim7.holds_tied_plain_at .later [] [.data, .data, .data, .handle, .sentinel, .sentinel] true (true, "3715c025972e12dc452a229855ecac83c1980c2c474f2d43d3e4154c200332c2") true
    over (fun _ h => by cases h) wfText (fun _ h => by cases h) topStation_row_tie rfl ⟨rfl, rfl⟩ tied_main rfl
    (fun f fn hf hfn => by
      obtain rfl : f = 18 := Option.some.inj (named.symm.trans hf) |>.symm
      obtain rfl : fn = Tryz.f18 := (Option.some.inj (Tryz.func18.symm.trans hfn)).symm
      exact ⟨tied_looks, fun j t ht => by
        have hm : t ∈ ([45, 26, 3] : List Nat) := by
          have := Array.mem_of_getElem? ht
          rw [Tryz.params18] at this
          simpa using this
        simp only [List.mem_cons, List.not_mem_nil, or_false] at hm
        rcases hm with rfl | rfl | rfl
        · exact tied_want45
        · exact tied_want26
        · exact tied_want3⟩)
    goes
#print axioms card
end Go.Proofs.YtbpjodikknbcoaaGreatDoor.topStation
namespace Go.Proofs.YtbpjodikknbcoaaGreatDoor
/-- The card, under a short name, for the claim. -/
theorem topStation_holds : Rows.TopStationCardSaid := topStation.card
end Go.Proofs.YtbpjodikknbcoaaGreatDoor
