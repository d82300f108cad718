/-
  DERIVED. GIVEN WITH THE SEED: THE CARDS: each row of YtdmcioghdindfaaGreatDoorRows.lean that lists a variable, with what it lists TIED to the program's text (the seventh form; the later family's looks); each row that meets fmt, with fmt's text TOLD by the authors' own Lean function (tested against real Go, not proved from fmt's source: count such statements apart). THE CARD IS WHAT COUNTS. Prove the row's statement (the work); the ties are given (YtdmcioghdindfaaGreatDoorTie.lean); close each card by the builder's one call (the guide's Derived/Test/ToyasCard.lean, 'card_holds'). Laid BY PROGRAM, IN A SANDBOX (cutbox-door.mjs). By AI agents, Wed Nov 11 2026. No macro, syntax, notation, axiom, sorry.
-/
import Derived.Test.YtdmcioghdindfaaGreatDoorRows
import GoSem.ClaimSeven
namespace Go.Proofs.YtdmcioghdindfaaGreatDoor
namespace Rows

/-- THE TIED CARD OF 'affidavitlaw18.MergeThree'. -/
def mergeThreeCard : Claim7 := { stood := { row := mergeThreeRow, standIns := [], harness := (true, "bd8240afccb99678151d1ded10dabd20926f89bdac07a87ff8995c4082296031"), looks := true }, kinds := [], alts := [], laidByText := true, laidKinds := [.data, .pinned], laidTests := true, laidLooks := .later }
def MergeThreeCardSaid : Prop := Claim7.holds Tryz.pinned (.plain (OpenSpec.ofChange mergeThreeSpec)) mergeThreeCard

/-- THE TIED CARD OF 'affidavitlaw18.MergeLong'. -/
def mergeLongCard : Claim7 := { stood := { row := mergeLongRow, standIns := [], harness := (true, "bd8240afccb99678151d1ded10dabd20926f89bdac07a87ff8995c4082296031"), looks := true }, kinds := [], alts := [], laidByText := true, laidKinds := [.data, .pinned], laidTests := true, laidLooks := .later }
def MergeLongCardSaid : Prop := Claim7.holds Tryz.pinned (.plain (OpenSpec.ofChange mergeLongSpec)) mergeLongCard

/-- THE TIED CARD OF 'affidavitlaw18.MergeNames'. -/
def mergeNamesCard : Claim7 := { stood := { row := mergeNamesRow, standIns := [], harness := (true, "bd8240afccb99678151d1ded10dabd20926f89bdac07a87ff8995c4082296031"), looks := true }, kinds := [], alts := [], laidByText := true, laidKinds := [.data, .pinned], laidTests := true, laidLooks := .later }
def MergeNamesCardSaid : Prop := Claim7.holds Tryz.pinned (.plain (OpenSpec.ofChange mergeNamesSpec)) mergeNamesCard

/-- THE TIED CARD OF 'affidavitlaw18.MergeBetween'. -/
def mergeBetweenCard : Claim7 := { stood := { row := mergeBetweenRow, standIns := [], harness := (true, "bd8240afccb99678151d1ded10dabd20926f89bdac07a87ff8995c4082296031"), looks := true }, kinds := [], alts := [], laidByText := true, laidKinds := [.data, .pinned], laidTests := true, laidLooks := .later }
def MergeBetweenCardSaid : Prop := Claim7.holds Tryz.pinned (.plain (OpenSpec.ofChange mergeBetweenSpec)) mergeBetweenCard

/-- THE SECOND FORM's CARD OF 'affidavitlaw18.MergeThree'. -/
def mergeThreeUptoCard : Claim7 := { stood := { row := mergeThreeUptoRow, standIns := [], harness := (true, "bd8240afccb99678151d1ded10dabd20926f89bdac07a87ff8995c4082296031"), looks := true }, kinds := [], alts := [], laidByText := true, laidKinds := [.data, .pinned], laidTests := true, laidLooks := .later }
def MergeThreeUptoCardSaid : Prop := Claim7.holds Tryz.pinned (.plain (OpenSpec.upto mergeThreeSpec)) mergeThreeUptoCard

/-- THE SECOND FORM's CARD OF 'affidavitlaw18.MergeLong'. -/
def mergeLongUptoCard : Claim7 := { stood := { row := mergeLongUptoRow, standIns := [], harness := (true, "bd8240afccb99678151d1ded10dabd20926f89bdac07a87ff8995c4082296031"), looks := true }, kinds := [], alts := [], laidByText := true, laidKinds := [.data, .pinned], laidTests := true, laidLooks := .later }
def MergeLongUptoCardSaid : Prop := Claim7.holds Tryz.pinned (.plain (OpenSpec.upto mergeLongSpec)) mergeLongUptoCard

/-- THE SECOND FORM's CARD OF 'affidavitlaw18.MergeNames'. -/
def mergeNamesUptoCard : Claim7 := { stood := { row := mergeNamesUptoRow, standIns := [], harness := (true, "bd8240afccb99678151d1ded10dabd20926f89bdac07a87ff8995c4082296031"), looks := true }, kinds := [], alts := [], laidByText := true, laidKinds := [.data, .pinned], laidTests := true, laidLooks := .later }
def MergeNamesUptoCardSaid : Prop := Claim7.holds Tryz.pinned (.plain (OpenSpec.upto mergeNamesSpec)) mergeNamesUptoCard

/-- THE SECOND FORM's CARD OF 'affidavitlaw18.MergeBetween'. -/
def mergeBetweenUptoCard : Claim7 := { stood := { row := mergeBetweenUptoRow, standIns := [], harness := (true, "bd8240afccb99678151d1ded10dabd20926f89bdac07a87ff8995c4082296031"), looks := true }, kinds := [], alts := [], laidByText := true, laidKinds := [.data, .pinned], laidTests := true, laidLooks := .later }
def MergeBetweenUptoCardSaid : Prop := Claim7.holds Tryz.pinned (.plain (OpenSpec.upto mergeBetweenSpec)) mergeBetweenUptoCard
end Rows
end Go.Proofs.YtdmcioghdindfaaGreatDoor
