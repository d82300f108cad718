/-
  DERIVED. GIVEN WITH THE SEED: THE CARDS: each row of YtknecjjdegngfaaDoorRows.lean that lists a variable, with what it lists TIED to the program's text (the seventh form; the later family's looks); each row that meets fmt, with fmt's text TOLD by the authors' own Lean function (tested against real Go, not proved from fmt's source: count such statements apart). THE CARD IS WHAT COUNTS. Prove the row's statement (the work); the ties are given (YtknecjjdegngfaaDoorTie.lean); close each card by the builder's one call (the guide's Derived/Test/ToyasCard.lean, 'card_holds'). Laid BY PROGRAM, IN A SANDBOX (cutbox-door.mjs). By AI agents, Wed Nov 11 2026. No macro, syntax, notation, axiom, sorry.
-/
import Derived.Test.YtknecjjdegngfaaDoorRows
import GoSem.ClaimSeven
namespace Go.Proofs.YtknecjjdegngfaaDoor
namespace Rows

/-- THE TIED CARD OF 'affidavitlaw27.BookHashes'. -/
def bookHashesCard : Claim7 := { stood := { row := bookHashesRow, standIns := [], harness := (true, "d9090fca3cdfb8af40a8dadeae26bc2b27c616a0948841677d9afaa5a8ba009e"), looks := true }, kinds := [], alts := [], laidByText := true, laidKinds := [.data, .data], laidTests := true, laidLooks := .later }
def BookHashesCardSaid : Prop := Claim7.holds Tryd.pinned (.plain (OpenSpec.ofChange bookHashesSpec)) bookHashesCard

/-- THE TIED CARD OF 'affidavitlaw27.BookLong'. -/
def bookLongCard : Claim7 := { stood := { row := bookLongRow, standIns := [], harness := (true, "d9090fca3cdfb8af40a8dadeae26bc2b27c616a0948841677d9afaa5a8ba009e"), looks := true }, kinds := [], alts := [], laidByText := true, laidKinds := [.data, .data], laidTests := true, laidLooks := .later }
def BookLongCardSaid : Prop := Claim7.holds Tryd.pinned (.plain (OpenSpec.ofChange bookLongSpec)) bookLongCard

/-- THE TIED CARD OF 'affidavitlaw27.BookFolds'. -/
def bookFoldsCard : Claim7 := { stood := { row := bookFoldsRow, standIns := [], harness := (true, "d9090fca3cdfb8af40a8dadeae26bc2b27c616a0948841677d9afaa5a8ba009e"), looks := true }, kinds := [], alts := [], laidByText := true, laidKinds := [.data, .data], laidTests := true, laidLooks := .later }
def BookFoldsCardSaid : Prop := Claim7.holds Tryd.pinned (.plain (OpenSpec.ofChange bookFoldsSpec)) bookFoldsCard

/-- THE TIED CARD OF 'affidavitlaw27.BookChecksEntry'. -/
def bookChecksEntryCard : Claim7 := { stood := { row := bookChecksEntryRow, standIns := [], harness := (true, "d9090fca3cdfb8af40a8dadeae26bc2b27c616a0948841677d9afaa5a8ba009e"), looks := true }, kinds := [], alts := [], laidByText := true, laidKinds := [.data, .data], laidTests := true, laidLooks := .later }
def BookChecksEntryCardSaid : Prop := Claim7.holds Tryd.pinned (.plain (OpenSpec.ofChange bookChecksEntrySpec)) bookChecksEntryCard

/-- THE TIED CARD OF 'affidavitlaw27.BookChecksGrowth'. -/
def bookChecksGrowthCard : Claim7 := { stood := { row := bookChecksGrowthRow, standIns := [], harness := (true, "d9090fca3cdfb8af40a8dadeae26bc2b27c616a0948841677d9afaa5a8ba009e"), looks := true }, kinds := [], alts := [], laidByText := true, laidKinds := [.data, .data], laidTests := true, laidLooks := .later }
def BookChecksGrowthCardSaid : Prop := Claim7.holds Tryd.pinned (.plain (OpenSpec.ofChange bookChecksGrowthSpec)) bookChecksGrowthCard

/-- THE TIED CARD OF 'affidavitlaw27.BookNames'. -/
def bookNamesCard : Claim7 := { stood := { row := bookNamesRow, standIns := [], harness := (true, "d9090fca3cdfb8af40a8dadeae26bc2b27c616a0948841677d9afaa5a8ba009e"), looks := true }, kinds := [], alts := [], laidByText := true, laidKinds := [.data, .data], laidTests := true, laidLooks := .later }
def BookNamesCardSaid : Prop := Claim7.holds Tryd.pinned (.plain (OpenSpec.ofChange bookNamesSpec)) bookNamesCard

/-- THE TIED CARD OF 'affidavitlaw27.BookProves'. -/
def bookProvesCard : Claim7 := { stood := { row := bookProvesRow, standIns := [], harness := (true, "d9090fca3cdfb8af40a8dadeae26bc2b27c616a0948841677d9afaa5a8ba009e"), looks := true }, kinds := [], alts := [], laidByText := true, laidKinds := [.data, .data], laidTests := true, laidLooks := .later }
def BookProvesCardSaid : Prop := Claim7.holds Tryd.pinned (.plain (OpenSpec.ofChange bookProvesSpec)) bookProvesCard

/-- THE SECOND FORM's CARD OF 'affidavitlaw27.BookHashes'. -/
def bookHashesUptoCard : Claim7 := { stood := { row := bookHashesUptoRow, standIns := [], harness := (true, "d9090fca3cdfb8af40a8dadeae26bc2b27c616a0948841677d9afaa5a8ba009e"), looks := true }, kinds := [], alts := [], laidByText := true, laidKinds := [.data, .data], laidTests := true, laidLooks := .later }
def BookHashesUptoCardSaid : Prop := Claim7.holds Tryd.pinned (.plain (OpenSpec.upto bookHashesSpec)) bookHashesUptoCard

/-- THE SECOND FORM's CARD OF 'affidavitlaw27.BookLong'. -/
def bookLongUptoCard : Claim7 := { stood := { row := bookLongUptoRow, standIns := [], harness := (true, "d9090fca3cdfb8af40a8dadeae26bc2b27c616a0948841677d9afaa5a8ba009e"), looks := true }, kinds := [], alts := [], laidByText := true, laidKinds := [.data, .data], laidTests := true, laidLooks := .later }
def BookLongUptoCardSaid : Prop := Claim7.holds Tryd.pinned (.plain (OpenSpec.upto bookLongSpec)) bookLongUptoCard

/-- THE SECOND FORM's CARD OF 'affidavitlaw27.BookFolds'. -/
def bookFoldsUptoCard : Claim7 := { stood := { row := bookFoldsUptoRow, standIns := [], harness := (true, "d9090fca3cdfb8af40a8dadeae26bc2b27c616a0948841677d9afaa5a8ba009e"), looks := true }, kinds := [], alts := [], laidByText := true, laidKinds := [.data, .data], laidTests := true, laidLooks := .later }
def BookFoldsUptoCardSaid : Prop := Claim7.holds Tryd.pinned (.plain (OpenSpec.upto bookFoldsSpec)) bookFoldsUptoCard

/-- THE SECOND FORM's CARD OF 'affidavitlaw27.BookChecksEntry'. -/
def bookChecksEntryUptoCard : Claim7 := { stood := { row := bookChecksEntryUptoRow, standIns := [], harness := (true, "d9090fca3cdfb8af40a8dadeae26bc2b27c616a0948841677d9afaa5a8ba009e"), looks := true }, kinds := [], alts := [], laidByText := true, laidKinds := [.data, .data], laidTests := true, laidLooks := .later }
def BookChecksEntryUptoCardSaid : Prop := Claim7.holds Tryd.pinned (.plain (OpenSpec.upto bookChecksEntrySpec)) bookChecksEntryUptoCard

/-- THE SECOND FORM's CARD OF 'affidavitlaw27.BookChecksGrowth'. -/
def bookChecksGrowthUptoCard : Claim7 := { stood := { row := bookChecksGrowthUptoRow, standIns := [], harness := (true, "d9090fca3cdfb8af40a8dadeae26bc2b27c616a0948841677d9afaa5a8ba009e"), looks := true }, kinds := [], alts := [], laidByText := true, laidKinds := [.data, .data], laidTests := true, laidLooks := .later }
def BookChecksGrowthUptoCardSaid : Prop := Claim7.holds Tryd.pinned (.plain (OpenSpec.upto bookChecksGrowthSpec)) bookChecksGrowthUptoCard

/-- THE SECOND FORM's CARD OF 'affidavitlaw27.BookNames'. -/
def bookNamesUptoCard : Claim7 := { stood := { row := bookNamesUptoRow, standIns := [], harness := (true, "d9090fca3cdfb8af40a8dadeae26bc2b27c616a0948841677d9afaa5a8ba009e"), looks := true }, kinds := [], alts := [], laidByText := true, laidKinds := [.data, .data], laidTests := true, laidLooks := .later }
def BookNamesUptoCardSaid : Prop := Claim7.holds Tryd.pinned (.plain (OpenSpec.upto bookNamesSpec)) bookNamesUptoCard

/-- THE SECOND FORM's CARD OF 'affidavitlaw27.BookProves'. -/
def bookProvesUptoCard : Claim7 := { stood := { row := bookProvesUptoRow, standIns := [], harness := (true, "d9090fca3cdfb8af40a8dadeae26bc2b27c616a0948841677d9afaa5a8ba009e"), looks := true }, kinds := [], alts := [], laidByText := true, laidKinds := [.data, .data], laidTests := true, laidLooks := .later }
def BookProvesUptoCardSaid : Prop := Claim7.holds Tryd.pinned (.plain (OpenSpec.upto bookProvesSpec)) bookProvesUptoCard
end Rows
end Go.Proofs.YtknecjjdegngfaaDoor
