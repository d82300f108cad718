/-
  DERIVED. GIVEN WITH THE SEED: THE CARDS: each row of YtplleficmkfniaaGreatDoorRows.lean that lists a variable, with what it lists TIED to the program's text (the seventh form; the later family's looks); each row that meets fmt, with fmt's text TOLD by the authors' own Lean function (tested against real Go, not proved from fmt's source: count such statements apart). THE CARD IS WHAT COUNTS. Prove the row's statement (the work); the ties are given (YtplleficmkfniaaGreatDoorTie.lean); close each card by the builder's one call (the guide's Derived/Test/ToyasCard.lean, 'card_holds'). Laid BY PROGRAM, IN A SANDBOX (cutbox-door.mjs). By AI agents, Wed Nov 11 2026. No macro, syntax, notation, axiom, sorry.
-/
import Derived.Test.YtplleficmkfniaaGreatDoorRows
import GoSem.ClaimSeven
namespace Go.Proofs.YtplleficmkfniaaGreatDoor
namespace Rows

/-- THE TIED CARD OF 'affidavitlaw22.DigestChecks'. -/
def digestChecksCard : Claim7 := { stood := { row := digestChecksRow, standIns := [], harness := (true, "f02dd9e17c2760d3c96f20bb2228ed183f0027cf09ad61fd5c7ce35b5e5682ab"), looks := true }, kinds := [], alts := [], laidByText := true, laidKinds := [.data, .data, .data, .data, .sentinel, .sentinel, .data, .data, .pinned], laidTests := true, laidLooks := .later }
def DigestChecksCardSaid : Prop := Claim7.holds Tryz.pinned (.plain (OpenSpec.ofChange digestChecksSpec)) digestChecksCard

/-- THE TIED CARD OF 'affidavitlaw22.DigestClashes'. -/
def digestClashesCard : Claim7 := { stood := { row := digestClashesRow, standIns := [], harness := (true, "f02dd9e17c2760d3c96f20bb2228ed183f0027cf09ad61fd5c7ce35b5e5682ab"), looks := true }, kinds := [], alts := [], laidByText := true, laidKinds := [.data, .data, .data, .data, .sentinel, .sentinel, .data, .data, .pinned], laidTests := true, laidLooks := .later }
def DigestClashesCardSaid : Prop := Claim7.holds Tryz.pinned (.plain (OpenSpec.ofChange digestClashesSpec)) digestClashesCard

/-- THE TIED CARD OF 'affidavitlaw22.DigestSames'. -/
def digestSamesCard : Claim7 := { stood := { row := digestSamesRow, standIns := [], harness := (true, "f02dd9e17c2760d3c96f20bb2228ed183f0027cf09ad61fd5c7ce35b5e5682ab"), looks := true }, kinds := [], alts := [], laidByText := true, laidKinds := [.data, .data, .data, .data, .sentinel, .sentinel, .data, .data, .pinned], laidTests := true, laidLooks := .later }
def DigestSamesCardSaid : Prop := Claim7.holds Tryz.pinned (.plain (OpenSpec.ofChange digestSamesSpec)) digestSamesCard

/-- THE TIED CARD OF 'affidavitlaw22.DigestDenials'. -/
def digestDenialsCard : Claim7 := { stood := { row := digestDenialsRow, standIns := [], harness := (true, "f02dd9e17c2760d3c96f20bb2228ed183f0027cf09ad61fd5c7ce35b5e5682ab"), looks := true }, kinds := [], alts := [], laidByText := true, laidKinds := [.data, .data, .data, .data, .sentinel, .sentinel, .data, .data, .pinned], laidTests := true, laidLooks := .later }
def DigestDenialsCardSaid : Prop := Claim7.holds Tryz.pinned (.plain (OpenSpec.ofChange digestDenialsSpec)) digestDenialsCard

/-- THE TIED CARD OF 'affidavitlaw22.DigestOfs'. -/
def digestOfsCard : Claim7 := { stood := { row := digestOfsRow, standIns := [], harness := (true, "f02dd9e17c2760d3c96f20bb2228ed183f0027cf09ad61fd5c7ce35b5e5682ab"), looks := true }, kinds := [], alts := [], laidByText := true, laidKinds := [.data, .data, .data, .data, .sentinel, .sentinel, .data, .data, .pinned], laidTests := true, laidLooks := .later }
def DigestOfsCardSaid : Prop := Claim7.holds Tryz.pinned (.plain (OpenSpec.ofChange digestOfsSpec)) digestOfsCard

/-- THE TIED CARD OF 'affidavitlaw22.DigestBinds'. -/
def digestBindsCard : Claim7 := { stood := { row := digestBindsRow, standIns := [], harness := (true, "f02dd9e17c2760d3c96f20bb2228ed183f0027cf09ad61fd5c7ce35b5e5682ab"), looks := true }, kinds := [], alts := [], laidByText := true, laidKinds := [.data, .data, .data, .data, .sentinel, .sentinel, .data, .data, .pinned], laidTests := true, laidLooks := .later }
def DigestBindsCardSaid : Prop := Claim7.holds Tryz.pinned (.plain (OpenSpec.ofChange digestBindsSpec)) digestBindsCard

/-- THE TIED CARD OF 'affidavitlaw22.DigestProves'. -/
def digestProvesCard : Claim7 := { stood := { row := digestProvesRow, standIns := [], harness := (true, "f02dd9e17c2760d3c96f20bb2228ed183f0027cf09ad61fd5c7ce35b5e5682ab"), looks := true }, kinds := [], alts := [], laidByText := true, laidKinds := [.data, .data, .data, .data, .sentinel, .sentinel, .data, .data, .pinned], laidTests := true, laidLooks := .later }
def DigestProvesCardSaid : Prop := Claim7.holds Tryz.pinned (.plain (OpenSpec.ofChange digestProvesSpec)) digestProvesCard

/-- THE TIED CARD OF 'affidavitlaw22.DigestRefuses'. -/
def digestRefusesCard : Claim7 := { stood := { row := digestRefusesRow, standIns := [], harness := (true, "f02dd9e17c2760d3c96f20bb2228ed183f0027cf09ad61fd5c7ce35b5e5682ab"), looks := true }, kinds := [], alts := [], laidByText := true, laidKinds := [.data, .data, .data, .data, .sentinel, .sentinel, .data, .data, .pinned], laidTests := true, laidLooks := .later }
def DigestRefusesCardSaid : Prop := Claim7.holds Tryz.pinned (.plain (OpenSpec.ofChange digestRefusesSpec)) digestRefusesCard

/-- THE TIED CARD OF 'affidavitlaw22.DigestDenies'. -/
def digestDeniesCard : Claim7 := { stood := { row := digestDeniesRow, standIns := [], harness := (true, "f02dd9e17c2760d3c96f20bb2228ed183f0027cf09ad61fd5c7ce35b5e5682ab"), looks := true }, kinds := [], alts := [], laidByText := true, laidKinds := [.data, .data, .data, .data, .sentinel, .sentinel, .data, .data, .pinned], laidTests := true, laidLooks := .later }
def DigestDeniesCardSaid : Prop := Claim7.holds Tryz.pinned (.plain (OpenSpec.ofChange digestDeniesSpec)) digestDeniesCard

/-- THE TIED CARD OF 'affidavitlaw22.DigestHolds'. -/
def digestHoldsCard : Claim7 := { stood := { row := digestHoldsRow, standIns := [], harness := (true, "f02dd9e17c2760d3c96f20bb2228ed183f0027cf09ad61fd5c7ce35b5e5682ab"), looks := true }, kinds := [], alts := [], laidByText := true, laidKinds := [.data, .data, .data, .data, .sentinel, .sentinel, .data, .data, .pinned], laidTests := true, laidLooks := .later }
def DigestHoldsCardSaid : Prop := Claim7.holds Tryz.pinned (.plain (OpenSpec.ofChange digestHoldsSpec)) digestHoldsCard

/-- THE SECOND FORM's CARD OF 'affidavitlaw22.DigestChecks'. -/
def digestChecksUptoCard : Claim7 := { stood := { row := digestChecksUptoRow, standIns := [], harness := (true, "f02dd9e17c2760d3c96f20bb2228ed183f0027cf09ad61fd5c7ce35b5e5682ab"), looks := true }, kinds := [], alts := [], laidByText := true, laidKinds := [.data, .data, .data, .data, .sentinel, .sentinel, .data, .data, .pinned], laidTests := true, laidLooks := .later }
def DigestChecksUptoCardSaid : Prop := Claim7.holds Tryz.pinned (.plain (OpenSpec.upto digestChecksSpec)) digestChecksUptoCard

/-- THE SECOND FORM's CARD OF 'affidavitlaw22.DigestClashes'. -/
def digestClashesUptoCard : Claim7 := { stood := { row := digestClashesUptoRow, standIns := [], harness := (true, "f02dd9e17c2760d3c96f20bb2228ed183f0027cf09ad61fd5c7ce35b5e5682ab"), looks := true }, kinds := [], alts := [], laidByText := true, laidKinds := [.data, .data, .data, .data, .sentinel, .sentinel, .data, .data, .pinned], laidTests := true, laidLooks := .later }
def DigestClashesUptoCardSaid : Prop := Claim7.holds Tryz.pinned (.plain (OpenSpec.upto digestClashesSpec)) digestClashesUptoCard

/-- THE SECOND FORM's CARD OF 'affidavitlaw22.DigestSames'. -/
def digestSamesUptoCard : Claim7 := { stood := { row := digestSamesUptoRow, standIns := [], harness := (true, "f02dd9e17c2760d3c96f20bb2228ed183f0027cf09ad61fd5c7ce35b5e5682ab"), looks := true }, kinds := [], alts := [], laidByText := true, laidKinds := [.data, .data, .data, .data, .sentinel, .sentinel, .data, .data, .pinned], laidTests := true, laidLooks := .later }
def DigestSamesUptoCardSaid : Prop := Claim7.holds Tryz.pinned (.plain (OpenSpec.upto digestSamesSpec)) digestSamesUptoCard

/-- THE SECOND FORM's CARD OF 'affidavitlaw22.DigestDenials'. -/
def digestDenialsUptoCard : Claim7 := { stood := { row := digestDenialsUptoRow, standIns := [], harness := (true, "f02dd9e17c2760d3c96f20bb2228ed183f0027cf09ad61fd5c7ce35b5e5682ab"), looks := true }, kinds := [], alts := [], laidByText := true, laidKinds := [.data, .data, .data, .data, .sentinel, .sentinel, .data, .data, .pinned], laidTests := true, laidLooks := .later }
def DigestDenialsUptoCardSaid : Prop := Claim7.holds Tryz.pinned (.plain (OpenSpec.upto digestDenialsSpec)) digestDenialsUptoCard

/-- THE SECOND FORM's CARD OF 'affidavitlaw22.DigestOfs'. -/
def digestOfsUptoCard : Claim7 := { stood := { row := digestOfsUptoRow, standIns := [], harness := (true, "f02dd9e17c2760d3c96f20bb2228ed183f0027cf09ad61fd5c7ce35b5e5682ab"), looks := true }, kinds := [], alts := [], laidByText := true, laidKinds := [.data, .data, .data, .data, .sentinel, .sentinel, .data, .data, .pinned], laidTests := true, laidLooks := .later }
def DigestOfsUptoCardSaid : Prop := Claim7.holds Tryz.pinned (.plain (OpenSpec.upto digestOfsSpec)) digestOfsUptoCard

/-- THE SECOND FORM's CARD OF 'affidavitlaw22.DigestBinds'. -/
def digestBindsUptoCard : Claim7 := { stood := { row := digestBindsUptoRow, standIns := [], harness := (true, "f02dd9e17c2760d3c96f20bb2228ed183f0027cf09ad61fd5c7ce35b5e5682ab"), looks := true }, kinds := [], alts := [], laidByText := true, laidKinds := [.data, .data, .data, .data, .sentinel, .sentinel, .data, .data, .pinned], laidTests := true, laidLooks := .later }
def DigestBindsUptoCardSaid : Prop := Claim7.holds Tryz.pinned (.plain (OpenSpec.upto digestBindsSpec)) digestBindsUptoCard

/-- THE SECOND FORM's CARD OF 'affidavitlaw22.DigestProves'. -/
def digestProvesUptoCard : Claim7 := { stood := { row := digestProvesUptoRow, standIns := [], harness := (true, "f02dd9e17c2760d3c96f20bb2228ed183f0027cf09ad61fd5c7ce35b5e5682ab"), looks := true }, kinds := [], alts := [], laidByText := true, laidKinds := [.data, .data, .data, .data, .sentinel, .sentinel, .data, .data, .pinned], laidTests := true, laidLooks := .later }
def DigestProvesUptoCardSaid : Prop := Claim7.holds Tryz.pinned (.plain (OpenSpec.upto digestProvesSpec)) digestProvesUptoCard

/-- THE SECOND FORM's CARD OF 'affidavitlaw22.DigestRefuses'. -/
def digestRefusesUptoCard : Claim7 := { stood := { row := digestRefusesUptoRow, standIns := [], harness := (true, "f02dd9e17c2760d3c96f20bb2228ed183f0027cf09ad61fd5c7ce35b5e5682ab"), looks := true }, kinds := [], alts := [], laidByText := true, laidKinds := [.data, .data, .data, .data, .sentinel, .sentinel, .data, .data, .pinned], laidTests := true, laidLooks := .later }
def DigestRefusesUptoCardSaid : Prop := Claim7.holds Tryz.pinned (.plain (OpenSpec.upto digestRefusesSpec)) digestRefusesUptoCard

/-- THE SECOND FORM's CARD OF 'affidavitlaw22.DigestDenies'. -/
def digestDeniesUptoCard : Claim7 := { stood := { row := digestDeniesUptoRow, standIns := [], harness := (true, "f02dd9e17c2760d3c96f20bb2228ed183f0027cf09ad61fd5c7ce35b5e5682ab"), looks := true }, kinds := [], alts := [], laidByText := true, laidKinds := [.data, .data, .data, .data, .sentinel, .sentinel, .data, .data, .pinned], laidTests := true, laidLooks := .later }
def DigestDeniesUptoCardSaid : Prop := Claim7.holds Tryz.pinned (.plain (OpenSpec.upto digestDeniesSpec)) digestDeniesUptoCard

/-- THE SECOND FORM's CARD OF 'affidavitlaw22.DigestHolds'. -/
def digestHoldsUptoCard : Claim7 := { stood := { row := digestHoldsUptoRow, standIns := [], harness := (true, "f02dd9e17c2760d3c96f20bb2228ed183f0027cf09ad61fd5c7ce35b5e5682ab"), looks := true }, kinds := [], alts := [], laidByText := true, laidKinds := [.data, .data, .data, .data, .sentinel, .sentinel, .data, .data, .pinned], laidTests := true, laidLooks := .later }
def DigestHoldsUptoCardSaid : Prop := Claim7.holds Tryz.pinned (.plain (OpenSpec.upto digestHoldsSpec)) digestHoldsUptoCard
end Rows
end Go.Proofs.YtplleficmkfniaaGreatDoor
