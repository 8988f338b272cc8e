/- TopBook: the row and its tied card. -/
import Derived.Test.YtbpjodikknbcoaaGreatDoorCards
import Derived.Test.YtbpjodikknbcoaaGreatDoorTie
import Derived.Test.YtbpjodikknbcoaaGreatDoorLaw
import Derived.Test.YtbpjodikknbcoaaGreatDoorPureTopBook
import Derived.SevenTiedAt
import Derived.Test.YtbpjodikknbcoaaGreatDoorClosedTopBook
import Derived.Test.YtbpjodikknbcoaaGreatDoorTied
set_option maxRecDepth 100000
set_option linter.unusedVariables false
namespace Go.Proofs.YtbpjodikknbcoaaGreatDoor.topBook
open Go Go.Pv Go.ChangeShapes Go.WideShapes Go.ChangeAt Go.RowKit
theorem lifted (os : Os) (started : os.Started) (H : Type) (enc : TypeId × Value → H) :
    ReturnsInHanded {} Tryz.checked os 3 .any (fun w args => (Rows.topBookSpec.pre enc Tryz.prog Tryz.f3 [] false w args ∧ laidMetH Tryz.prog Rows.topBookRow.laid w) ∧ sizedMet enc Tryz.prog Tryz.f3 (OpenSpec.ofChange Rows.topBookSpec) false w args)
      (Rows.topBookSpec.post enc Tryz.prog Tryz.f3 false true false false) :=
  law_laid started (by kernel_rfl) Tryz.func3
    (ChangeSpec.witness_shaped (enc := enc) (C := Tryz.checked) (os := os) (X := fun w _ => laidMetH Tryz.prog laidL w) false (laidWorld os) #[.agg #[.slice none 0 0, .slice none 0 0, .slice none 0 0, .slice none 0 0, .slice none 0 0, .int .i64 0]] 8 (laidWorld_os os)
      (World.shaped_of_ZipB (by kernel_rfl) (by kernel_rfl)) (by kernel_rfl) (by kernel_rfl) (by kernel_rfl) (laidWorld_met os _))
    rfl rfl Tryz.underlying4 (ts := [28]) rfl (by kernel_rfl) (by kernel_rfl)
    (fun ds h => match ds, h with | [d0], _ => rfl) (fun k x => implf3 k x.1) () (fun k => e3_ok k) pureTopBook
theorem over : Rows.topBookRow.holds Tryz.pinned (OpenSpec.ofChange Rows.topBookSpec) :=
  OpenClaim.holds_of_wide 3 Tryz.f3 rfl rfl rfl rfl rfl rfl rfl ⟨rfl, rfl, rfl, rfl, rfl⟩ rfl rfl rfl rfl rfl (by kernel_rfl) Tryz.func3 closed
    (of_decide_eq_true (by kernel_rfl)) (by unfold Func.isWrapper; first | (rw [if_pos (by decide +kernel)]; kernel_rfl) | (rw [if_neg (by decide +kernel)]; exact ⟨rfl, rfl⟩))
    (fun os started H enc _ => lifted os started H enc)
theorem goes : false = Rows.topBookRow.goesBy Tryz.pinned.checked.prog := by kernel_rfl
theorem wfText : Rows.topBookRow.wfByText (OpenSpec.ofChange Rows.topBookSpec) = true := by kernel_rfl
theorem named : Tryz.prog.funcNamed "diaphone/diaphonetop.TopBook" = some 3 := by kernel_rfl
theorem card : Rows.TopBookCardSaid :=
  Claim7.holds_tied_plain_at .later [] [.data, .data, .data, .handle, .sentinel, .sentinel] true (true, "3715c025972e12dc452a229855ecac83c1980c2c474f2d43d3e4154c200332c2") true
    over (fun _ h => by cases h) wfText (fun _ h => by cases h) topBook_row_tie rfl ⟨rfl, rfl⟩ tied_main rfl
    (fun f fn hf hfn => by
      obtain rfl : f = 3 := Option.some.inj (named.symm.trans hf) |>.symm
      obtain rfl : fn = Tryz.f3 := (Option.some.inj (Tryz.func3.symm.trans hfn)).symm
      exact ⟨tied_looks, fun j t ht => by
        have hm : t ∈ ([28] : List Nat) := by
          have := Array.mem_of_getElem? ht
          rw [Tryz.params3] at this
          simpa using this
        simp only [List.mem_cons, List.not_mem_nil, or_false] at hm
        rcases hm with rfl
        · exact tied_want28⟩)
    goes
#print axioms card
end Go.Proofs.YtbpjodikknbcoaaGreatDoor.topBook
namespace Go.Proofs.YtbpjodikknbcoaaGreatDoor
/-- The card, under a short name, for the claim. -/
theorem topBook_holds : Rows.TopBookCardSaid := topBook.card
end Go.Proofs.YtbpjodikknbcoaaGreatDoor
