/-
  DERIVED. GIVEN WITH THE SEED: THE CARDS: each row of YteandmolnbcmmaaGreatDoorRows.lean that lists a variable, with what it lists TIED to the program's text (the seventh form; the later family's looks); each row that meets fmt, with fmt's text TOLD by the authors' own Lean function (tested against real Go, not proved from fmt's source: count such statements apart). THE CARD IS WHAT COUNTS. Prove the row's statement (the work); the ties are given (YteandmolnbcmmaaGreatDoorTie.lean); close each card by the builder's one call (the guide's Derived/Test/ToyasCard.lean, 'card_holds'). Laid BY PROGRAM, IN A SANDBOX (cutbox-door.mjs). By AI agents, Wed Nov 11 2026. No macro, syntax, notation, axiom, sorry.
-/
import Derived.Test.YteandmolnbcmmaaGreatDoorRows
import GoSem.ClaimSeven
namespace Go.Proofs.YteandmolnbcmmaaGreatDoor
namespace Rows

/-- THE TIED CARD OF 'fleettop.TopRulesApart'. -/
def topRulesApartCard : Claim7 := { stood := { row := topRulesApartRow, standIns := [], harness := (true, "34303e911847fdf536145ccd5a6b3a516efb71a0300a691074b6717f48dec1c8"), looks := false }, kinds := [], alts := [], laidByText := true, laidKinds := [.data, .data, .data, .data, .pinned], laidTests := true, laidLooks := .later }
def TopRulesApartCardSaid : Prop := Claim7.holds Tryz.pinned (.plain (OpenSpec.ofChange topRulesApartSpec)) topRulesApartCard

/-- THE TIED CARD OF 'fleettop.TopRulesNegated'. -/
def topRulesNegatedCard : Claim7 := { stood := { row := topRulesNegatedRow, standIns := [], harness := (true, "34303e911847fdf536145ccd5a6b3a516efb71a0300a691074b6717f48dec1c8"), looks := false }, kinds := [], alts := [], laidByText := true, laidKinds := [.data, .data, .data, .data, .pinned], laidTests := true, laidLooks := .later }
def TopRulesNegatedCardSaid : Prop := Claim7.holds Tryz.pinned (.plain (OpenSpec.ofChange topRulesNegatedSpec)) topRulesNegatedCard

/-- THE TIED CARD OF 'fleettop.TopRulesScaled'. -/
def topRulesScaledCard : Claim7 := { stood := { row := topRulesScaledRow, standIns := [], harness := (true, "34303e911847fdf536145ccd5a6b3a516efb71a0300a691074b6717f48dec1c8"), looks := false }, kinds := [], alts := [], laidByText := true, laidKinds := [.data, .data, .data, .data, .pinned], laidTests := true, laidLooks := .later }
def TopRulesScaledCardSaid : Prop := Claim7.holds Tryz.pinned (.plain (OpenSpec.ofChange topRulesScaledSpec)) topRulesScaledCard

/-- THE TIED CARD OF 'fleettop.TopSamplesSpare'. -/
def topSamplesSpareCard : Claim7 := { stood := { row := topSamplesSpareRow, standIns := [], harness := (true, "34303e911847fdf536145ccd5a6b3a516efb71a0300a691074b6717f48dec1c8"), looks := false }, kinds := [], alts := [], laidByText := true, laidKinds := [.data, .data, .data, .data, .pinned], laidTests := true, laidLooks := .later }
def TopSamplesSpareCardSaid : Prop := Claim7.holds Tryz.pinned (.plain (OpenSpec.ofChange topSamplesSpareSpec)) topSamplesSpareCard

/-- THE TIED CARD OF 'fleettop.TopTwinsDiffer'. -/
def topTwinsDifferCard : Claim7 := { stood := { row := topTwinsDifferRow, standIns := [], harness := (true, "34303e911847fdf536145ccd5a6b3a516efb71a0300a691074b6717f48dec1c8"), looks := false }, kinds := [], alts := [], laidByText := true, laidKinds := [.data, .data, .data, .data, .pinned], laidTests := true, laidLooks := .later }
def TopTwinsDifferCardSaid : Prop := Claim7.holds Tryz.pinned (.plain (OpenSpec.ofChange topTwinsDifferSpec)) topTwinsDifferCard

/-- THE TIED CARD OF 'fleettop.TopRulesRaised'. -/
def topRulesRaisedCard : Claim7 := { stood := { row := topRulesRaisedRow, standIns := [], harness := (true, "34303e911847fdf536145ccd5a6b3a516efb71a0300a691074b6717f48dec1c8"), looks := false }, kinds := [], alts := [], laidByText := true, laidKinds := [.data, .data, .data, .data, .pinned], laidTests := true, laidLooks := .later }
def TopRulesRaisedCardSaid : Prop := Claim7.holds Tryz.pinned (.plain (OpenSpec.ofChange topRulesRaisedSpec)) topRulesRaisedCard

/-- THE TIED CARD OF 'fleettop.TopTimesMoved'. -/
def topTimesMovedCard : Claim7 := { stood := { row := topTimesMovedRow, standIns := [], harness := (true, "34303e911847fdf536145ccd5a6b3a516efb71a0300a691074b6717f48dec1c8"), looks := false }, kinds := [], alts := [], laidByText := true, laidKinds := [.data, .data, .data, .data, .pinned], laidTests := true, laidLooks := .later }
def TopTimesMovedCardSaid : Prop := Claim7.holds Tryz.pinned (.plain (OpenSpec.ofChange topTimesMovedSpec)) topTimesMovedCard

/-- THE TIED CARD OF 'fleettop.TopDevicesNamed'. -/
def topDevicesNamedCard : Claim7 := { stood := { row := topDevicesNamedRow, standIns := [], harness := (true, "34303e911847fdf536145ccd5a6b3a516efb71a0300a691074b6717f48dec1c8"), looks := false }, kinds := [], alts := [], laidByText := true, laidKinds := [.data, .data, .data, .data, .pinned], laidTests := true, laidLooks := .later }
def TopDevicesNamedCardSaid : Prop := Claim7.holds Tryz.pinned (.plain (OpenSpec.ofChange topDevicesNamedSpec)) topDevicesNamedCard

/-- THE TIED CARD OF 'fleettop.TopMetricsNamed'. -/
def topMetricsNamedCard : Claim7 := { stood := { row := topMetricsNamedRow, standIns := [], harness := (true, "34303e911847fdf536145ccd5a6b3a516efb71a0300a691074b6717f48dec1c8"), looks := false }, kinds := [], alts := [], laidByText := true, laidKinds := [.data, .data, .data, .data, .pinned], laidTests := true, laidLooks := .later }
def TopMetricsNamedCardSaid : Prop := Claim7.holds Tryz.pinned (.plain (OpenSpec.ofChange topMetricsNamedSpec)) topMetricsNamedCard

/-- THE TIED CARD OF 'fleettop.TopOneIsAll'. -/
def topOneIsAllCard : Claim7 := { stood := { row := topOneIsAllRow, standIns := [], harness := (true, "34303e911847fdf536145ccd5a6b3a516efb71a0300a691074b6717f48dec1c8"), looks := false }, kinds := [], alts := [], laidByText := true, laidKinds := [.data, .data, .data, .data, .pinned], laidTests := true, laidLooks := .later }
def TopOneIsAllCardSaid : Prop := Claim7.holds Tryz.pinned (.plain (OpenSpec.ofChange topOneIsAllSpec)) topOneIsAllCard

/-- THE TIED CARD OF 'fleettop.TopCountsAreBlind'. -/
def topCountsAreBlindCard : Claim7 := { stood := { row := topCountsAreBlindRow, standIns := [], harness := (true, "34303e911847fdf536145ccd5a6b3a516efb71a0300a691074b6717f48dec1c8"), looks := false }, kinds := [], alts := [], laidByText := true, laidKinds := [.data, .data, .data, .data, .pinned], laidTests := true, laidLooks := .later }
def TopCountsAreBlindCardSaid : Prop := Claim7.holds Tryz.pinned (.plain (OpenSpec.ofChange topCountsAreBlindSpec)) topCountsAreBlindCard

/-- THE TIED CARD OF 'fleettop.TopDevicesApart'. -/
def topDevicesApartCard : Claim7 := { stood := { row := topDevicesApartRow, standIns := [], harness := (true, "34303e911847fdf536145ccd5a6b3a516efb71a0300a691074b6717f48dec1c8"), looks := false }, kinds := [], alts := [], laidByText := true, laidKinds := [.data, .data, .data, .data, .pinned], laidTests := true, laidLooks := .later }
def TopDevicesApartCardSaid : Prop := Claim7.holds Tryz.pinned (.plain (OpenSpec.ofChange topDevicesApartSpec)) topDevicesApartCard

/-- THE TIED CARD OF 'fleettop.TopWindowsJoined'. -/
def topWindowsJoinedCard : Claim7 := { stood := { row := topWindowsJoinedRow, standIns := [], harness := (true, "34303e911847fdf536145ccd5a6b3a516efb71a0300a691074b6717f48dec1c8"), looks := false }, kinds := [], alts := [], laidByText := true, laidKinds := [.data, .data, .data, .data, .pinned], laidTests := true, laidLooks := .later }
def TopWindowsJoinedCardSaid : Prop := Claim7.holds Tryz.pinned (.plain (OpenSpec.ofChange topWindowsJoinedSpec)) topWindowsJoinedCard

/-- THE SECOND FORM's CARD OF 'fleettop.TopRulesApart'. -/
def topRulesApartUptoCard : Claim7 := { stood := { row := topRulesApartUptoRow, standIns := [], harness := (true, "34303e911847fdf536145ccd5a6b3a516efb71a0300a691074b6717f48dec1c8"), looks := false }, kinds := [], alts := [], laidByText := true, laidKinds := [.data, .data, .data, .data, .pinned], laidTests := true, laidLooks := .later }
def TopRulesApartUptoCardSaid : Prop := Claim7.holds Tryz.pinned (.plain (OpenSpec.upto topRulesApartSpec)) topRulesApartUptoCard

/-- THE SECOND FORM's CARD OF 'fleettop.TopRulesNegated'. -/
def topRulesNegatedUptoCard : Claim7 := { stood := { row := topRulesNegatedUptoRow, standIns := [], harness := (true, "34303e911847fdf536145ccd5a6b3a516efb71a0300a691074b6717f48dec1c8"), looks := false }, kinds := [], alts := [], laidByText := true, laidKinds := [.data, .data, .data, .data, .pinned], laidTests := true, laidLooks := .later }
def TopRulesNegatedUptoCardSaid : Prop := Claim7.holds Tryz.pinned (.plain (OpenSpec.upto topRulesNegatedSpec)) topRulesNegatedUptoCard

/-- THE SECOND FORM's CARD OF 'fleettop.TopRulesScaled'. -/
def topRulesScaledUptoCard : Claim7 := { stood := { row := topRulesScaledUptoRow, standIns := [], harness := (true, "34303e911847fdf536145ccd5a6b3a516efb71a0300a691074b6717f48dec1c8"), looks := false }, kinds := [], alts := [], laidByText := true, laidKinds := [.data, .data, .data, .data, .pinned], laidTests := true, laidLooks := .later }
def TopRulesScaledUptoCardSaid : Prop := Claim7.holds Tryz.pinned (.plain (OpenSpec.upto topRulesScaledSpec)) topRulesScaledUptoCard

/-- THE SECOND FORM's CARD OF 'fleettop.TopSamplesSpare'. -/
def topSamplesSpareUptoCard : Claim7 := { stood := { row := topSamplesSpareUptoRow, standIns := [], harness := (true, "34303e911847fdf536145ccd5a6b3a516efb71a0300a691074b6717f48dec1c8"), looks := false }, kinds := [], alts := [], laidByText := true, laidKinds := [.data, .data, .data, .data, .pinned], laidTests := true, laidLooks := .later }
def TopSamplesSpareUptoCardSaid : Prop := Claim7.holds Tryz.pinned (.plain (OpenSpec.upto topSamplesSpareSpec)) topSamplesSpareUptoCard

/-- THE SECOND FORM's CARD OF 'fleettop.TopTwinsDiffer'. -/
def topTwinsDifferUptoCard : Claim7 := { stood := { row := topTwinsDifferUptoRow, standIns := [], harness := (true, "34303e911847fdf536145ccd5a6b3a516efb71a0300a691074b6717f48dec1c8"), looks := false }, kinds := [], alts := [], laidByText := true, laidKinds := [.data, .data, .data, .data, .pinned], laidTests := true, laidLooks := .later }
def TopTwinsDifferUptoCardSaid : Prop := Claim7.holds Tryz.pinned (.plain (OpenSpec.upto topTwinsDifferSpec)) topTwinsDifferUptoCard

/-- THE SECOND FORM's CARD OF 'fleettop.TopRulesRaised'. -/
def topRulesRaisedUptoCard : Claim7 := { stood := { row := topRulesRaisedUptoRow, standIns := [], harness := (true, "34303e911847fdf536145ccd5a6b3a516efb71a0300a691074b6717f48dec1c8"), looks := false }, kinds := [], alts := [], laidByText := true, laidKinds := [.data, .data, .data, .data, .pinned], laidTests := true, laidLooks := .later }
def TopRulesRaisedUptoCardSaid : Prop := Claim7.holds Tryz.pinned (.plain (OpenSpec.upto topRulesRaisedSpec)) topRulesRaisedUptoCard

/-- THE SECOND FORM's CARD OF 'fleettop.TopTimesMoved'. -/
def topTimesMovedUptoCard : Claim7 := { stood := { row := topTimesMovedUptoRow, standIns := [], harness := (true, "34303e911847fdf536145ccd5a6b3a516efb71a0300a691074b6717f48dec1c8"), looks := false }, kinds := [], alts := [], laidByText := true, laidKinds := [.data, .data, .data, .data, .pinned], laidTests := true, laidLooks := .later }
def TopTimesMovedUptoCardSaid : Prop := Claim7.holds Tryz.pinned (.plain (OpenSpec.upto topTimesMovedSpec)) topTimesMovedUptoCard

/-- THE SECOND FORM's CARD OF 'fleettop.TopDevicesNamed'. -/
def topDevicesNamedUptoCard : Claim7 := { stood := { row := topDevicesNamedUptoRow, standIns := [], harness := (true, "34303e911847fdf536145ccd5a6b3a516efb71a0300a691074b6717f48dec1c8"), looks := false }, kinds := [], alts := [], laidByText := true, laidKinds := [.data, .data, .data, .data, .pinned], laidTests := true, laidLooks := .later }
def TopDevicesNamedUptoCardSaid : Prop := Claim7.holds Tryz.pinned (.plain (OpenSpec.upto topDevicesNamedSpec)) topDevicesNamedUptoCard

/-- THE SECOND FORM's CARD OF 'fleettop.TopMetricsNamed'. -/
def topMetricsNamedUptoCard : Claim7 := { stood := { row := topMetricsNamedUptoRow, standIns := [], harness := (true, "34303e911847fdf536145ccd5a6b3a516efb71a0300a691074b6717f48dec1c8"), looks := false }, kinds := [], alts := [], laidByText := true, laidKinds := [.data, .data, .data, .data, .pinned], laidTests := true, laidLooks := .later }
def TopMetricsNamedUptoCardSaid : Prop := Claim7.holds Tryz.pinned (.plain (OpenSpec.upto topMetricsNamedSpec)) topMetricsNamedUptoCard

/-- THE SECOND FORM's CARD OF 'fleettop.TopOneIsAll'. -/
def topOneIsAllUptoCard : Claim7 := { stood := { row := topOneIsAllUptoRow, standIns := [], harness := (true, "34303e911847fdf536145ccd5a6b3a516efb71a0300a691074b6717f48dec1c8"), looks := false }, kinds := [], alts := [], laidByText := true, laidKinds := [.data, .data, .data, .data, .pinned], laidTests := true, laidLooks := .later }
def TopOneIsAllUptoCardSaid : Prop := Claim7.holds Tryz.pinned (.plain (OpenSpec.upto topOneIsAllSpec)) topOneIsAllUptoCard

/-- THE SECOND FORM's CARD OF 'fleettop.TopCountsAreBlind'. -/
def topCountsAreBlindUptoCard : Claim7 := { stood := { row := topCountsAreBlindUptoRow, standIns := [], harness := (true, "34303e911847fdf536145ccd5a6b3a516efb71a0300a691074b6717f48dec1c8"), looks := false }, kinds := [], alts := [], laidByText := true, laidKinds := [.data, .data, .data, .data, .pinned], laidTests := true, laidLooks := .later }
def TopCountsAreBlindUptoCardSaid : Prop := Claim7.holds Tryz.pinned (.plain (OpenSpec.upto topCountsAreBlindSpec)) topCountsAreBlindUptoCard

/-- THE SECOND FORM's CARD OF 'fleettop.TopDevicesApart'. -/
def topDevicesApartUptoCard : Claim7 := { stood := { row := topDevicesApartUptoRow, standIns := [], harness := (true, "34303e911847fdf536145ccd5a6b3a516efb71a0300a691074b6717f48dec1c8"), looks := false }, kinds := [], alts := [], laidByText := true, laidKinds := [.data, .data, .data, .data, .pinned], laidTests := true, laidLooks := .later }
def TopDevicesApartUptoCardSaid : Prop := Claim7.holds Tryz.pinned (.plain (OpenSpec.upto topDevicesApartSpec)) topDevicesApartUptoCard

/-- THE SECOND FORM's CARD OF 'fleettop.TopWindowsJoined'. -/
def topWindowsJoinedUptoCard : Claim7 := { stood := { row := topWindowsJoinedUptoRow, standIns := [], harness := (true, "34303e911847fdf536145ccd5a6b3a516efb71a0300a691074b6717f48dec1c8"), looks := false }, kinds := [], alts := [], laidByText := true, laidKinds := [.data, .data, .data, .data, .pinned], laidTests := true, laidLooks := .later }
def TopWindowsJoinedUptoCardSaid : Prop := Claim7.holds Tryz.pinned (.plain (OpenSpec.upto topWindowsJoinedSpec)) topWindowsJoinedUptoCard
end Rows
end Go.Proofs.YteandmolnbcmmaaGreatDoor
