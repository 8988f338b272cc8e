/-
  DERIVED. GIVEN WITH THE SEED: THE CARDS: each row of YtbpjodikknbcoaaGreatDoorRows.lean that lists a variable, with what it lists TIED to the program's text (the seventh form; the later family's looks); each row that meets fmt, with fmt's text TOLD by the authors' own Lean function (tested against real Go, not proved from fmt's source: count such statements apart). THE CARD IS WHAT COUNTS. Prove the row's statement (the work); the ties are given (YtbpjodikknbcoaaGreatDoorTie.lean); close each card by the builder's one call (the guide's Derived/Test/ToyasCard.lean, 'card_holds'). Laid BY PROGRAM, IN A SANDBOX (cutbox-door.mjs). By AI agents, Wed Nov 11 2026. No macro, syntax, notation, axiom, sorry.
-/
import Derived.Test.YtbpjodikknbcoaaGreatDoorRows
import GoSem.ClaimSeven
namespace Go.Proofs.YtbpjodikknbcoaaGreatDoor
namespace Rows

/-- THE TIED CARD OF 'diaphonetop.TopBook'. -/
def topBookCard : Claim7 := { stood := { row := topBookRow, standIns := [], harness := (true, "3715c025972e12dc452a229855ecac83c1980c2c474f2d43d3e4154c200332c2"), looks := true }, kinds := [], alts := [], laidByText := true, laidKinds := [.data, .data, .data, .handle, .sentinel, .sentinel], laidTests := true, laidLooks := .later }
def TopBookCardSaid : Prop := Claim7.holds Tryz.pinned (.plain (OpenSpec.ofChange topBookSpec)) topBookCard

/-- THE TIED CARD OF 'diaphonelaw09.StationFires'. -/
def stationFiresCard : Claim7 := { stood := { row := stationFiresRow, standIns := [], harness := (true, "3715c025972e12dc452a229855ecac83c1980c2c474f2d43d3e4154c200332c2"), looks := true }, kinds := [], alts := [], laidByText := true, laidKinds := [.data, .data, .data, .handle, .sentinel, .sentinel], laidTests := true, laidLooks := .later }
def StationFiresCardSaid : Prop := Claim7.holds Tryz.pinned (.plain (OpenSpec.ofChange stationFiresSpec)) stationFiresCard

/-- THE TIED CARD OF 'diaphonelaw09.StationBalances'. -/
def stationBalancesCard : Claim7 := { stood := { row := stationBalancesRow, standIns := [], harness := (true, "3715c025972e12dc452a229855ecac83c1980c2c474f2d43d3e4154c200332c2"), looks := true }, kinds := [], alts := [], laidByText := true, laidKinds := [.data, .data, .data, .handle, .sentinel, .sentinel], laidTests := true, laidLooks := .later }
def StationBalancesCardSaid : Prop := Claim7.holds Tryz.pinned (.plain (OpenSpec.ofChange stationBalancesSpec)) stationBalancesCard

/-- THE TIED CARD OF 'diaphonelaw09.StationOrders'. -/
def stationOrdersCard : Claim7 := { stood := { row := stationOrdersRow, standIns := [], harness := (true, "3715c025972e12dc452a229855ecac83c1980c2c474f2d43d3e4154c200332c2"), looks := true }, kinds := [], alts := [], laidByText := true, laidKinds := [.data, .data, .data, .handle, .sentinel, .sentinel], laidTests := true, laidLooks := .later }
def StationOrdersCardSaid : Prop := Claim7.holds Tryz.pinned (.plain (OpenSpec.ofChange stationOrdersSpec)) stationOrdersCard

/-- THE TIED CARD OF 'diaphonelaw09.StationRuns'. -/
def stationRunsCard : Claim7 := { stood := { row := stationRunsRow, standIns := [], harness := (true, "3715c025972e12dc452a229855ecac83c1980c2c474f2d43d3e4154c200332c2"), looks := true }, kinds := [], alts := [], laidByText := true, laidKinds := [.data, .data, .data, .handle, .sentinel, .sentinel], laidTests := true, laidLooks := .later }
def StationRunsCardSaid : Prop := Claim7.holds Tryz.pinned (.plain (OpenSpec.ofChange stationRunsSpec)) stationRunsCard

/-- THE TIED CARD OF 'diaphonelaw09.StationReads'. -/
def stationReadsCard : Claim7 := { stood := { row := stationReadsRow, standIns := [], harness := (true, "3715c025972e12dc452a229855ecac83c1980c2c474f2d43d3e4154c200332c2"), looks := true }, kinds := [], alts := [], laidByText := true, laidKinds := [.data, .data, .data, .handle, .sentinel, .sentinel], laidTests := true, laidLooks := .later }
def StationReadsCardSaid : Prop := Claim7.holds Tryz.pinned (.plain (OpenSpec.ofChange stationReadsSpec)) stationReadsCard

/-- THE TIED CARD OF 'diaphonelaw09.StationWrites'. -/
def stationWritesCard : Claim7 := { stood := { row := stationWritesRow, standIns := [], harness := (true, "3715c025972e12dc452a229855ecac83c1980c2c474f2d43d3e4154c200332c2"), looks := true }, kinds := [], alts := [], laidByText := true, laidKinds := [.data, .data, .data, .handle, .sentinel, .sentinel], laidTests := true, laidLooks := .later }
def StationWritesCardSaid : Prop := Claim7.holds Tryz.pinned (.plain (OpenSpec.ofChange stationWritesSpec)) stationWritesCard

/-- THE TIED CARD OF 'diaphonelaw09.StationRefuses'. -/
def stationRefusesCard : Claim7 := { stood := { row := stationRefusesRow, standIns := [], harness := (true, "3715c025972e12dc452a229855ecac83c1980c2c474f2d43d3e4154c200332c2"), looks := true }, kinds := [], alts := [], laidByText := true, laidKinds := [.data, .data, .data, .handle, .sentinel, .sentinel], laidTests := true, laidLooks := .later }
def StationRefusesCardSaid : Prop := Claim7.holds Tryz.pinned (.plain (OpenSpec.ofChange stationRefusesSpec)) stationRefusesCard

/-- THE TIED CARD OF 'diaphonelaw09.StationMerges'. -/
def stationMergesCard : Claim7 := { stood := { row := stationMergesRow, standIns := [], harness := (true, "3715c025972e12dc452a229855ecac83c1980c2c474f2d43d3e4154c200332c2"), looks := true }, kinds := [], alts := [], laidByText := true, laidKinds := [.data, .data, .data, .handle, .sentinel, .sentinel], laidTests := true, laidLooks := .later }
def StationMergesCardSaid : Prop := Claim7.holds Tryz.pinned (.plain (OpenSpec.ofChange stationMergesSpec)) stationMergesCard

/-- THE TIED CARD OF 'diaphonelaw09.StationReplays'. -/
def stationReplaysCard : Claim7 := { stood := { row := stationReplaysRow, standIns := [], harness := (true, "3715c025972e12dc452a229855ecac83c1980c2c474f2d43d3e4154c200332c2"), looks := true }, kinds := [], alts := [], laidByText := true, laidKinds := [.data, .data, .data, .handle, .sentinel, .sentinel], laidTests := true, laidLooks := .later }
def StationReplaysCardSaid : Prop := Claim7.holds Tryz.pinned (.plain (OpenSpec.ofChange stationReplaysSpec)) stationReplaysCard

/-- THE TIED CARD OF 'diaphonelaw09.StationBooks'. -/
def stationBooksCard : Claim7 := { stood := { row := stationBooksRow, standIns := [], harness := (true, "3715c025972e12dc452a229855ecac83c1980c2c474f2d43d3e4154c200332c2"), looks := true }, kinds := [], alts := [], laidByText := true, laidKinds := [.data, .data, .data, .handle, .sentinel, .sentinel], laidTests := true, laidLooks := .later }
def StationBooksCardSaid : Prop := Claim7.holds Tryz.pinned (.plain (OpenSpec.ofChange stationBooksSpec)) stationBooksCard

/-- THE TIED CARD OF 'diaphonelaw09.StationAudits'. -/
def stationAuditsCard : Claim7 := { stood := { row := stationAuditsRow, standIns := [], harness := (true, "3715c025972e12dc452a229855ecac83c1980c2c474f2d43d3e4154c200332c2"), looks := true }, kinds := [], alts := [], laidByText := true, laidKinds := [.data, .data, .data, .handle, .sentinel, .sentinel], laidTests := true, laidLooks := .later }
def StationAuditsCardSaid : Prop := Claim7.holds Tryz.pinned (.plain (OpenSpec.ofChange stationAuditsSpec)) stationAuditsCard

/-- THE TIED CARD OF 'diaphonelaw09.StationNews'. -/
def stationNewsCard : Claim7 := { stood := { row := stationNewsRow, standIns := [], harness := (true, "3715c025972e12dc452a229855ecac83c1980c2c474f2d43d3e4154c200332c2"), looks := true }, kinds := [], alts := [], laidByText := true, laidKinds := [.data, .data, .data, .handle, .sentinel, .sentinel], laidTests := true, laidLooks := .later }
def StationNewsCardSaid : Prop := Claim7.holds Tryz.pinned (.plain (OpenSpec.ofChange stationNewsSpec)) stationNewsCard

/-- THE TIED CARD OF 'diaphonelaw09.StationHours'. -/
def stationHoursCard : Claim7 := { stood := { row := stationHoursRow, standIns := [], harness := (true, "3715c025972e12dc452a229855ecac83c1980c2c474f2d43d3e4154c200332c2"), looks := true }, kinds := [], alts := [], laidByText := true, laidKinds := [.data, .data, .data, .handle, .sentinel, .sentinel], laidTests := true, laidLooks := .later }
def StationHoursCardSaid : Prop := Claim7.holds Tryz.pinned (.plain (OpenSpec.ofChange stationHoursSpec)) stationHoursCard

/-- THE TIED CARD OF 'diaphonetop.TopReplay'. -/
def topReplayCard : Claim7 := { stood := { row := topReplayRow, standIns := [], harness := (true, "3715c025972e12dc452a229855ecac83c1980c2c474f2d43d3e4154c200332c2"), looks := true }, kinds := [], alts := [], laidByText := true, laidKinds := [.data, .data, .data, .handle, .sentinel, .sentinel], laidTests := true, laidLooks := .later }
def TopReplayCardSaid : Prop := Claim7.holds Tryz.pinned (.plain (OpenSpec.ofChange topReplaySpec)) topReplayCard

/-- THE TIED CARD OF 'diaphonetop.TopStation'. -/
def topStationCard : Claim7 := { stood := { row := topStationRow, standIns := [], harness := (true, "3715c025972e12dc452a229855ecac83c1980c2c474f2d43d3e4154c200332c2"), looks := true }, kinds := [], alts := [], laidByText := true, laidKinds := [.data, .data, .data, .handle, .sentinel, .sentinel], laidTests := true, laidLooks := .later }
def TopStationCardSaid : Prop := Claim7.holds Tryz.pinned (.plain (OpenSpec.ofChange topStationSpec)) topStationCard

/-- THE SECOND FORM's CARD OF 'diaphonetop.TopBook'. -/
def topBookUptoCard : Claim7 := { stood := { row := topBookUptoRow, standIns := [], harness := (true, "3715c025972e12dc452a229855ecac83c1980c2c474f2d43d3e4154c200332c2"), looks := true }, kinds := [], alts := [], laidByText := true, laidKinds := [.data, .data, .data, .handle, .sentinel, .sentinel], laidTests := true, laidLooks := .later }
def TopBookUptoCardSaid : Prop := Claim7.holds Tryz.pinned (.plain (OpenSpec.upto topBookSpec)) topBookUptoCard

/-- THE SECOND FORM's CARD OF 'diaphonelaw09.StationFires'. -/
def stationFiresUptoCard : Claim7 := { stood := { row := stationFiresUptoRow, standIns := [], harness := (true, "3715c025972e12dc452a229855ecac83c1980c2c474f2d43d3e4154c200332c2"), looks := true }, kinds := [], alts := [], laidByText := true, laidKinds := [.data, .data, .data, .handle, .sentinel, .sentinel], laidTests := true, laidLooks := .later }
def StationFiresUptoCardSaid : Prop := Claim7.holds Tryz.pinned (.plain (OpenSpec.upto stationFiresSpec)) stationFiresUptoCard

/-- THE SECOND FORM's CARD OF 'diaphonelaw09.StationBalances'. -/
def stationBalancesUptoCard : Claim7 := { stood := { row := stationBalancesUptoRow, standIns := [], harness := (true, "3715c025972e12dc452a229855ecac83c1980c2c474f2d43d3e4154c200332c2"), looks := true }, kinds := [], alts := [], laidByText := true, laidKinds := [.data, .data, .data, .handle, .sentinel, .sentinel], laidTests := true, laidLooks := .later }
def StationBalancesUptoCardSaid : Prop := Claim7.holds Tryz.pinned (.plain (OpenSpec.upto stationBalancesSpec)) stationBalancesUptoCard

/-- THE SECOND FORM's CARD OF 'diaphonelaw09.StationOrders'. -/
def stationOrdersUptoCard : Claim7 := { stood := { row := stationOrdersUptoRow, standIns := [], harness := (true, "3715c025972e12dc452a229855ecac83c1980c2c474f2d43d3e4154c200332c2"), looks := true }, kinds := [], alts := [], laidByText := true, laidKinds := [.data, .data, .data, .handle, .sentinel, .sentinel], laidTests := true, laidLooks := .later }
def StationOrdersUptoCardSaid : Prop := Claim7.holds Tryz.pinned (.plain (OpenSpec.upto stationOrdersSpec)) stationOrdersUptoCard

/-- THE SECOND FORM's CARD OF 'diaphonelaw09.StationRuns'. -/
def stationRunsUptoCard : Claim7 := { stood := { row := stationRunsUptoRow, standIns := [], harness := (true, "3715c025972e12dc452a229855ecac83c1980c2c474f2d43d3e4154c200332c2"), looks := true }, kinds := [], alts := [], laidByText := true, laidKinds := [.data, .data, .data, .handle, .sentinel, .sentinel], laidTests := true, laidLooks := .later }
def StationRunsUptoCardSaid : Prop := Claim7.holds Tryz.pinned (.plain (OpenSpec.upto stationRunsSpec)) stationRunsUptoCard

/-- THE SECOND FORM's CARD OF 'diaphonelaw09.StationReads'. -/
def stationReadsUptoCard : Claim7 := { stood := { row := stationReadsUptoRow, standIns := [], harness := (true, "3715c025972e12dc452a229855ecac83c1980c2c474f2d43d3e4154c200332c2"), looks := true }, kinds := [], alts := [], laidByText := true, laidKinds := [.data, .data, .data, .handle, .sentinel, .sentinel], laidTests := true, laidLooks := .later }
def StationReadsUptoCardSaid : Prop := Claim7.holds Tryz.pinned (.plain (OpenSpec.upto stationReadsSpec)) stationReadsUptoCard

/-- THE SECOND FORM's CARD OF 'diaphonelaw09.StationWrites'. -/
def stationWritesUptoCard : Claim7 := { stood := { row := stationWritesUptoRow, standIns := [], harness := (true, "3715c025972e12dc452a229855ecac83c1980c2c474f2d43d3e4154c200332c2"), looks := true }, kinds := [], alts := [], laidByText := true, laidKinds := [.data, .data, .data, .handle, .sentinel, .sentinel], laidTests := true, laidLooks := .later }
def StationWritesUptoCardSaid : Prop := Claim7.holds Tryz.pinned (.plain (OpenSpec.upto stationWritesSpec)) stationWritesUptoCard

/-- THE SECOND FORM's CARD OF 'diaphonelaw09.StationRefuses'. -/
def stationRefusesUptoCard : Claim7 := { stood := { row := stationRefusesUptoRow, standIns := [], harness := (true, "3715c025972e12dc452a229855ecac83c1980c2c474f2d43d3e4154c200332c2"), looks := true }, kinds := [], alts := [], laidByText := true, laidKinds := [.data, .data, .data, .handle, .sentinel, .sentinel], laidTests := true, laidLooks := .later }
def StationRefusesUptoCardSaid : Prop := Claim7.holds Tryz.pinned (.plain (OpenSpec.upto stationRefusesSpec)) stationRefusesUptoCard

/-- THE SECOND FORM's CARD OF 'diaphonelaw09.StationMerges'. -/
def stationMergesUptoCard : Claim7 := { stood := { row := stationMergesUptoRow, standIns := [], harness := (true, "3715c025972e12dc452a229855ecac83c1980c2c474f2d43d3e4154c200332c2"), looks := true }, kinds := [], alts := [], laidByText := true, laidKinds := [.data, .data, .data, .handle, .sentinel, .sentinel], laidTests := true, laidLooks := .later }
def StationMergesUptoCardSaid : Prop := Claim7.holds Tryz.pinned (.plain (OpenSpec.upto stationMergesSpec)) stationMergesUptoCard

/-- THE SECOND FORM's CARD OF 'diaphonelaw09.StationReplays'. -/
def stationReplaysUptoCard : Claim7 := { stood := { row := stationReplaysUptoRow, standIns := [], harness := (true, "3715c025972e12dc452a229855ecac83c1980c2c474f2d43d3e4154c200332c2"), looks := true }, kinds := [], alts := [], laidByText := true, laidKinds := [.data, .data, .data, .handle, .sentinel, .sentinel], laidTests := true, laidLooks := .later }
def StationReplaysUptoCardSaid : Prop := Claim7.holds Tryz.pinned (.plain (OpenSpec.upto stationReplaysSpec)) stationReplaysUptoCard

/-- THE SECOND FORM's CARD OF 'diaphonelaw09.StationBooks'. -/
def stationBooksUptoCard : Claim7 := { stood := { row := stationBooksUptoRow, standIns := [], harness := (true, "3715c025972e12dc452a229855ecac83c1980c2c474f2d43d3e4154c200332c2"), looks := true }, kinds := [], alts := [], laidByText := true, laidKinds := [.data, .data, .data, .handle, .sentinel, .sentinel], laidTests := true, laidLooks := .later }
def StationBooksUptoCardSaid : Prop := Claim7.holds Tryz.pinned (.plain (OpenSpec.upto stationBooksSpec)) stationBooksUptoCard

/-- THE SECOND FORM's CARD OF 'diaphonelaw09.StationAudits'. -/
def stationAuditsUptoCard : Claim7 := { stood := { row := stationAuditsUptoRow, standIns := [], harness := (true, "3715c025972e12dc452a229855ecac83c1980c2c474f2d43d3e4154c200332c2"), looks := true }, kinds := [], alts := [], laidByText := true, laidKinds := [.data, .data, .data, .handle, .sentinel, .sentinel], laidTests := true, laidLooks := .later }
def StationAuditsUptoCardSaid : Prop := Claim7.holds Tryz.pinned (.plain (OpenSpec.upto stationAuditsSpec)) stationAuditsUptoCard

/-- THE SECOND FORM's CARD OF 'diaphonelaw09.StationNews'. -/
def stationNewsUptoCard : Claim7 := { stood := { row := stationNewsUptoRow, standIns := [], harness := (true, "3715c025972e12dc452a229855ecac83c1980c2c474f2d43d3e4154c200332c2"), looks := true }, kinds := [], alts := [], laidByText := true, laidKinds := [.data, .data, .data, .handle, .sentinel, .sentinel], laidTests := true, laidLooks := .later }
def StationNewsUptoCardSaid : Prop := Claim7.holds Tryz.pinned (.plain (OpenSpec.upto stationNewsSpec)) stationNewsUptoCard

/-- THE SECOND FORM's CARD OF 'diaphonelaw09.StationHours'. -/
def stationHoursUptoCard : Claim7 := { stood := { row := stationHoursUptoRow, standIns := [], harness := (true, "3715c025972e12dc452a229855ecac83c1980c2c474f2d43d3e4154c200332c2"), looks := true }, kinds := [], alts := [], laidByText := true, laidKinds := [.data, .data, .data, .handle, .sentinel, .sentinel], laidTests := true, laidLooks := .later }
def StationHoursUptoCardSaid : Prop := Claim7.holds Tryz.pinned (.plain (OpenSpec.upto stationHoursSpec)) stationHoursUptoCard

/-- THE SECOND FORM's CARD OF 'diaphonetop.TopReplay'. -/
def topReplayUptoCard : Claim7 := { stood := { row := topReplayUptoRow, standIns := [], harness := (true, "3715c025972e12dc452a229855ecac83c1980c2c474f2d43d3e4154c200332c2"), looks := true }, kinds := [], alts := [], laidByText := true, laidKinds := [.data, .data, .data, .handle, .sentinel, .sentinel], laidTests := true, laidLooks := .later }
def TopReplayUptoCardSaid : Prop := Claim7.holds Tryz.pinned (.plain (OpenSpec.upto topReplaySpec)) topReplayUptoCard

/-- THE SECOND FORM's CARD OF 'diaphonetop.TopStation'. -/
def topStationUptoCard : Claim7 := { stood := { row := topStationUptoRow, standIns := [], harness := (true, "3715c025972e12dc452a229855ecac83c1980c2c474f2d43d3e4154c200332c2"), looks := true }, kinds := [], alts := [], laidByText := true, laidKinds := [.data, .data, .data, .handle, .sentinel, .sentinel], laidTests := true, laidLooks := .later }
def TopStationUptoCardSaid : Prop := Claim7.holds Tryz.pinned (.plain (OpenSpec.upto topStationSpec)) topStationUptoCard
end Rows
end Go.Proofs.YtbpjodikknbcoaaGreatDoor
