/-
  DERIVED. GIVEN WITH THE SEED: THE CARDS: each row of YtnlnbgjpbnjjfaaDoorRows.lean that lists a variable, with what it lists TIED to the program's text (the seventh form; the later family's looks); each row that meets fmt, with fmt's text TOLD by the authors' own Lean function (tested against real Go, not proved from fmt's source: count such statements apart). THE CARD IS WHAT COUNTS. Prove the row's statement (the work); the ties are given (YtnlnbgjpbnjjfaaDoorTie.lean); close each card by the builder's one call (the guide's Derived/Test/ToyasCard.lean, 'card_holds'). Laid BY PROGRAM, IN A SANDBOX (cutbox-door.mjs). By AI agents, Wed Nov 11 2026. No macro, syntax, notation, axiom, sorry.
-/
import Derived.Test.YtnlnbgjpbnjjfaaDoorRows
import GoSem.ClaimSeven
namespace Go.Proofs.YtnlnbgjpbnjjfaaDoor
namespace Rows

/-- THE TIED CARD OF 'affidavitlaw07.HmacParts'. -/
def hmacPartsCard : Claim7 := { stood := { row := hmacPartsRow, standIns := [], harness := (true, "4ce2cd099c4cccf81204bf1b844f0687df122fe1f73206d9eeb032e89c82ef33"), looks := true }, kinds := [], alts := [], laidByText := true, laidKinds := [.data, .data], laidTests := true, laidLooks := .later }
def HmacPartsCardSaid : Prop := Claim7.holds Tryd.pinned (.plain (OpenSpec.ofChange hmacPartsSpec)) hmacPartsCard

/-- THE TIED CARD OF 'affidavitlaw07.HmacBlocks'. -/
def hmacBlocksCard : Claim7 := { stood := { row := hmacBlocksRow, standIns := [], harness := (true, "4ce2cd099c4cccf81204bf1b844f0687df122fe1f73206d9eeb032e89c82ef33"), looks := true }, kinds := [], alts := [], laidByText := true, laidKinds := [.data, .data], laidTests := true, laidLooks := .later }
def HmacBlocksCardSaid : Prop := Claim7.holds Tryd.pinned (.plain (OpenSpec.ofChange hmacBlocksSpec)) hmacBlocksCard

/-- THE TIED CARD OF 'affidavitlaw07.HmacEquals'. -/
def hmacEqualsCard : Claim7 := { stood := { row := hmacEqualsRow, standIns := [], harness := (true, "4ce2cd099c4cccf81204bf1b844f0687df122fe1f73206d9eeb032e89c82ef33"), looks := true }, kinds := [], alts := [], laidByText := true, laidKinds := [.data, .data], laidTests := true, laidLooks := .later }
def HmacEqualsCardSaid : Prop := Claim7.holds Tryd.pinned (.plain (OpenSpec.ofChange hmacEqualsSpec)) hmacEqualsCard

/-- THE TIED CARD OF 'affidavitlaw07.HmacGrows'. -/
def hmacGrowsCard : Claim7 := { stood := { row := hmacGrowsRow, standIns := [], harness := (true, "4ce2cd099c4cccf81204bf1b844f0687df122fe1f73206d9eeb032e89c82ef33"), looks := true }, kinds := [], alts := [], laidByText := true, laidKinds := [.data, .data], laidTests := true, laidLooks := .later }
def HmacGrowsCardSaid : Prop := Claim7.holds Tryd.pinned (.plain (OpenSpec.ofChange hmacGrowsSpec)) hmacGrowsCard

/-- THE TIED CARD OF 'affidavitlaw07.HmacSums'. -/
def hmacSumsCard : Claim7 := { stood := { row := hmacSumsRow, standIns := [], harness := (true, "4ce2cd099c4cccf81204bf1b844f0687df122fe1f73206d9eeb032e89c82ef33"), looks := true }, kinds := [], alts := [], laidByText := true, laidKinds := [.data, .data], laidTests := true, laidLooks := .later }
def HmacSumsCardSaid : Prop := Claim7.holds Tryd.pinned (.plain (OpenSpec.ofChange hmacSumsSpec)) hmacSumsCard

/-- THE TIED CARD OF 'affidavitlaw07.HmacPieces'. -/
def hmacPiecesCard : Claim7 := { stood := { row := hmacPiecesRow, standIns := [], harness := (true, "4ce2cd099c4cccf81204bf1b844f0687df122fe1f73206d9eeb032e89c82ef33"), looks := true }, kinds := [], alts := [], laidByText := true, laidKinds := [.data, .data], laidTests := true, laidLooks := .later }
def HmacPiecesCardSaid : Prop := Claim7.holds Tryd.pinned (.plain (OpenSpec.ofChange hmacPiecesSpec)) hmacPiecesCard

/-- THE TIED CARD OF 'affidavitlaw07.HmacExpands'. -/
def hmacExpandsCard : Claim7 := { stood := { row := hmacExpandsRow, standIns := [], harness := (true, "4ce2cd099c4cccf81204bf1b844f0687df122fe1f73206d9eeb032e89c82ef33"), looks := true }, kinds := [], alts := [], laidByText := true, laidKinds := [.data, .data], laidTests := true, laidLooks := .later }
def HmacExpandsCardSaid : Prop := Claim7.holds Tryd.pinned (.plain (OpenSpec.ofChange hmacExpandsSpec)) hmacExpandsCard

/-- THE TIED CARD OF 'affidavitlaw07.HmacMacs'. -/
def hmacMacsCard : Claim7 := { stood := { row := hmacMacsRow, standIns := [], harness := (true, "4ce2cd099c4cccf81204bf1b844f0687df122fe1f73206d9eeb032e89c82ef33"), looks := true }, kinds := [], alts := [], laidByText := true, laidKinds := [.data, .data], laidTests := true, laidLooks := .later }
def HmacMacsCardSaid : Prop := Claim7.holds Tryd.pinned (.plain (OpenSpec.ofChange hmacMacsSpec)) hmacMacsCard

/-- THE TIED CARD OF 'affidavitlaw07.HmacRows'. -/
def hmacRowsCard : Claim7 := { stood := { row := hmacRowsRow, standIns := [], harness := (true, "4ce2cd099c4cccf81204bf1b844f0687df122fe1f73206d9eeb032e89c82ef33"), looks := true }, kinds := [], alts := [], laidByText := true, laidKinds := [.data, .data, .data, .data, .data], laidTests := true, laidLooks := .later }
def HmacRowsCardSaid : Prop := Claim7.holds Tryd.pinned (.plain (OpenSpec.ofChange hmacRowsSpec)) hmacRowsCard

/-- THE SECOND FORM's CARD OF 'affidavitlaw07.HmacParts'. -/
def hmacPartsUptoCard : Claim7 := { stood := { row := hmacPartsUptoRow, standIns := [], harness := (true, "4ce2cd099c4cccf81204bf1b844f0687df122fe1f73206d9eeb032e89c82ef33"), looks := true }, kinds := [], alts := [], laidByText := true, laidKinds := [.data, .data], laidTests := true, laidLooks := .later }
def HmacPartsUptoCardSaid : Prop := Claim7.holds Tryd.pinned (.plain (OpenSpec.upto hmacPartsSpec)) hmacPartsUptoCard

/-- THE SECOND FORM's CARD OF 'affidavitlaw07.HmacBlocks'. -/
def hmacBlocksUptoCard : Claim7 := { stood := { row := hmacBlocksUptoRow, standIns := [], harness := (true, "4ce2cd099c4cccf81204bf1b844f0687df122fe1f73206d9eeb032e89c82ef33"), looks := true }, kinds := [], alts := [], laidByText := true, laidKinds := [.data, .data], laidTests := true, laidLooks := .later }
def HmacBlocksUptoCardSaid : Prop := Claim7.holds Tryd.pinned (.plain (OpenSpec.upto hmacBlocksSpec)) hmacBlocksUptoCard

/-- THE SECOND FORM's CARD OF 'affidavitlaw07.HmacEquals'. -/
def hmacEqualsUptoCard : Claim7 := { stood := { row := hmacEqualsUptoRow, standIns := [], harness := (true, "4ce2cd099c4cccf81204bf1b844f0687df122fe1f73206d9eeb032e89c82ef33"), looks := true }, kinds := [], alts := [], laidByText := true, laidKinds := [.data, .data], laidTests := true, laidLooks := .later }
def HmacEqualsUptoCardSaid : Prop := Claim7.holds Tryd.pinned (.plain (OpenSpec.upto hmacEqualsSpec)) hmacEqualsUptoCard

/-- THE SECOND FORM's CARD OF 'affidavitlaw07.HmacGrows'. -/
def hmacGrowsUptoCard : Claim7 := { stood := { row := hmacGrowsUptoRow, standIns := [], harness := (true, "4ce2cd099c4cccf81204bf1b844f0687df122fe1f73206d9eeb032e89c82ef33"), looks := true }, kinds := [], alts := [], laidByText := true, laidKinds := [.data, .data], laidTests := true, laidLooks := .later }
def HmacGrowsUptoCardSaid : Prop := Claim7.holds Tryd.pinned (.plain (OpenSpec.upto hmacGrowsSpec)) hmacGrowsUptoCard

/-- THE SECOND FORM's CARD OF 'affidavitlaw07.HmacSums'. -/
def hmacSumsUptoCard : Claim7 := { stood := { row := hmacSumsUptoRow, standIns := [], harness := (true, "4ce2cd099c4cccf81204bf1b844f0687df122fe1f73206d9eeb032e89c82ef33"), looks := true }, kinds := [], alts := [], laidByText := true, laidKinds := [.data, .data], laidTests := true, laidLooks := .later }
def HmacSumsUptoCardSaid : Prop := Claim7.holds Tryd.pinned (.plain (OpenSpec.upto hmacSumsSpec)) hmacSumsUptoCard

/-- THE SECOND FORM's CARD OF 'affidavitlaw07.HmacPieces'. -/
def hmacPiecesUptoCard : Claim7 := { stood := { row := hmacPiecesUptoRow, standIns := [], harness := (true, "4ce2cd099c4cccf81204bf1b844f0687df122fe1f73206d9eeb032e89c82ef33"), looks := true }, kinds := [], alts := [], laidByText := true, laidKinds := [.data, .data], laidTests := true, laidLooks := .later }
def HmacPiecesUptoCardSaid : Prop := Claim7.holds Tryd.pinned (.plain (OpenSpec.upto hmacPiecesSpec)) hmacPiecesUptoCard

/-- THE SECOND FORM's CARD OF 'affidavitlaw07.HmacExpands'. -/
def hmacExpandsUptoCard : Claim7 := { stood := { row := hmacExpandsUptoRow, standIns := [], harness := (true, "4ce2cd099c4cccf81204bf1b844f0687df122fe1f73206d9eeb032e89c82ef33"), looks := true }, kinds := [], alts := [], laidByText := true, laidKinds := [.data, .data], laidTests := true, laidLooks := .later }
def HmacExpandsUptoCardSaid : Prop := Claim7.holds Tryd.pinned (.plain (OpenSpec.upto hmacExpandsSpec)) hmacExpandsUptoCard

/-- THE SECOND FORM's CARD OF 'affidavitlaw07.HmacMacs'. -/
def hmacMacsUptoCard : Claim7 := { stood := { row := hmacMacsUptoRow, standIns := [], harness := (true, "4ce2cd099c4cccf81204bf1b844f0687df122fe1f73206d9eeb032e89c82ef33"), looks := true }, kinds := [], alts := [], laidByText := true, laidKinds := [.data, .data], laidTests := true, laidLooks := .later }
def HmacMacsUptoCardSaid : Prop := Claim7.holds Tryd.pinned (.plain (OpenSpec.upto hmacMacsSpec)) hmacMacsUptoCard

/-- THE SECOND FORM's CARD OF 'affidavitlaw07.HmacRows'. -/
def hmacRowsUptoCard : Claim7 := { stood := { row := hmacRowsUptoRow, standIns := [], harness := (true, "4ce2cd099c4cccf81204bf1b844f0687df122fe1f73206d9eeb032e89c82ef33"), looks := true }, kinds := [], alts := [], laidByText := true, laidKinds := [.data, .data, .data, .data, .data], laidTests := true, laidLooks := .later }
def HmacRowsUptoCardSaid : Prop := Claim7.holds Tryd.pinned (.plain (OpenSpec.upto hmacRowsSpec)) hmacRowsUptoCard
end Rows
end Go.Proofs.YtnlnbgjpbnjjfaaDoor
