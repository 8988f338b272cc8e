/- TopReplay: the row and its tied card. -/
import Derived.Test.YtbpjodikknbcoaaGreatDoorCards
import Derived.Test.YtbpjodikknbcoaaGreatDoorTie
import Derived.Test.YtbpjodikknbcoaaGreatDoorLaw
import Derived.Test.YtbpjodikknbcoaaGreatDoorPureTopReplay
import Derived.SevenTiedAt
import Derived.Test.YtbpjodikknbcoaaGreatDoorClosedTopReplay
import Derived.Test.YtbpjodikknbcoaaGreatDoorTied
set_option maxRecDepth 100000
set_option linter.unusedVariables false
namespace Go.Proofs.YtbpjodikknbcoaaGreatDoor.topReplay
open Go Go.Pv Go.ChangeShapes Go.WideShapes Go.ChangeAt Go.RowKit
theorem lifted (os : Os) (started : os.Started) (H : Type) (enc : TypeId × Value → H) :
    ReturnsInHanded {} Tryz.checked os 17 .any (fun w args => (Rows.topReplaySpec.pre enc Tryz.prog Tryz.f17 [] false w args ∧ laidMetH Tryz.prog Rows.topReplayRow.laid w) ∧ sizedMet enc Tryz.prog Tryz.f17 (OpenSpec.ofChange Rows.topReplaySpec) false w args)
      (Rows.topReplaySpec.post enc Tryz.prog Tryz.f17 false true false false) :=
  law_laid started (by kernel_rfl) Tryz.func17
    (ChangeSpec.witness_shaped (enc := enc) (C := Tryz.checked) (os := os) (X := fun w _ => laidMetH Tryz.prog laidL w) false (laidWorld os) #[.agg #[.slice none 0 0, .slice none 0 0, .slice none 0 0, .slice none 0 0, .slice none 0 0, .int .i64 0]] 8 (laidWorld_os os)
      (World.shaped_of_ZipB (by kernel_rfl) (by kernel_rfl)) (by kernel_rfl) (by kernel_rfl) (by kernel_rfl) (laidWorld_met os _))
    rfl rfl Tryz.underlying4 (ts := [28]) rfl (by kernel_rfl) (by kernel_rfl)
    (fun ds h => match ds, h with | [d0], _ => rfl) (fun k x => implf17 k x.1) () (fun k => e17_ok k) pureTopReplay
theorem over : Rows.topReplayRow.holds Tryz.pinned (OpenSpec.ofChange Rows.topReplaySpec) :=
  OpenClaim.holds_of_wide 17 Tryz.f17 rfl rfl rfl rfl rfl rfl rfl ⟨rfl, rfl, rfl, rfl, rfl⟩ rfl rfl rfl rfl rfl (by kernel_rfl) Tryz.func17 closed
    (of_decide_eq_true (by kernel_rfl)) (by unfold Func.isWrapper; first | (rw [if_pos (by decide +kernel)]; kernel_rfl) | (rw [if_neg (by decide +kernel)]; exact ⟨rfl, rfl⟩))
    (fun os started H enc _ => lifted os started H enc)
theorem goes : false = Rows.topReplayRow.goesBy Tryz.pinned.checked.prog := by kernel_rfl
theorem wfText : Rows.topReplayRow.wfByText (OpenSpec.ofChange Rows.topReplaySpec) = true := by kernel_rfl
theorem named : Tryz.prog.funcNamed "diaphone/diaphonetop.TopReplay" = some 17 := by kernel_rfl
theorem card : Rows.TopReplayCardSaid :=
  Claim7.holds_tied_plain_at .later [] [.data, .data, .data, .handle, .sentinel, .sentinel] true (true, "3715c025972e12dc452a229855ecac83c1980c2c474f2d43d3e4154c200332c2") true
    over (fun _ h => by cases h) wfText (fun _ h => by cases h) topReplay_row_tie rfl ⟨rfl, rfl⟩ tied_main rfl
    (fun f fn hf hfn => by
      obtain rfl : f = 17 := Option.some.inj (named.symm.trans hf) |>.symm
      obtain rfl : fn = Tryz.f17 := (Option.some.inj (Tryz.func17.symm.trans hfn)).symm
      exact ⟨tied_looks, fun j t ht => by
        have hm : t ∈ ([28] : List Nat) := by
          have := Array.mem_of_getElem? ht
          rw [Tryz.params17] at this
          simpa using this
        simp only [List.mem_cons, List.not_mem_nil, or_false] at hm
        rcases hm with rfl
        · exact tied_want28⟩)
    goes
#print axioms card
end Go.Proofs.YtbpjodikknbcoaaGreatDoor.topReplay
namespace Go.Proofs.YtbpjodikknbcoaaGreatDoor
/-- The card, under a short name, for the claim. -/
theorem topReplay_holds : Rows.TopReplayCardSaid := topReplay.card
end Go.Proofs.YtbpjodikknbcoaaGreatDoor
