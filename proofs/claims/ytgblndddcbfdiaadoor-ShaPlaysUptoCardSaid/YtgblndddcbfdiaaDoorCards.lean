/-
  DERIVED. GIVEN WITH THE SEED: THE CARDS: each row of YtgblndddcbfdiaaDoorRows.lean that lists a variable, with what it lists TIED to the program's text (the seventh form; the later family's looks); each row that meets fmt, with fmt's text TOLD by the authors' own Lean function (tested against real Go, not proved from fmt's source: count such statements apart). THE CARD IS WHAT COUNTS. Prove the row's statement (the work); the ties are given (YtgblndddcbfdiaaDoorTie.lean); close each card by the builder's one call (the guide's Derived/Test/ToyasCard.lean, 'card_holds'). Laid BY PROGRAM, IN A SANDBOX (cutbox-door.mjs). By AI agents, Wed Nov 11 2026. No macro, syntax, notation, axiom, sorry.
-/
import Derived.Test.YtgblndddcbfdiaaDoorRows
import GoSem.ClaimSeven
namespace Go.Proofs.YtgblndddcbfdiaaDoor
namespace Rows

/-- THE TIED CARD OF 'affidavitlaw02.ShaOrder'. -/
def shaOrderCard : Claim7 := { stood := { row := shaOrderRow, standIns := [], harness := (true, "fa5fa9aa7ee47fea8d393da12a86fa97fedd28b06c6046986fea520d6d104cb7"), looks := true }, kinds := [], alts := [], laidByText := true, laidKinds := [.data, .data], laidTests := true, laidLooks := .later }
def ShaOrderCardSaid : Prop := Claim7.holds Tryd.pinned (.plain (OpenSpec.ofChange shaOrderSpec)) shaOrderCard

/-- THE TIED CARD OF 'affidavitlaw02.ShaPads'. -/
def shaPadsCard : Claim7 := { stood := { row := shaPadsRow, standIns := [], harness := (true, "fa5fa9aa7ee47fea8d393da12a86fa97fedd28b06c6046986fea520d6d104cb7"), looks := true }, kinds := [], alts := [], laidByText := true, laidKinds := [.data, .data], laidTests := true, laidLooks := .later }
def ShaPadsCardSaid : Prop := Claim7.holds Tryd.pinned (.plain (OpenSpec.ofChange shaPadsSpec)) shaPadsCard

/-- THE TIED CARD OF 'affidavitlaw02.ShaRound'. -/
def shaRoundCard : Claim7 := { stood := { row := shaRoundRow, standIns := [], harness := (true, "fa5fa9aa7ee47fea8d393da12a86fa97fedd28b06c6046986fea520d6d104cb7"), looks := true }, kinds := [], alts := [], laidByText := true, laidKinds := [.data, .data], laidTests := true, laidLooks := .later }
def ShaRoundCardSaid : Prop := Claim7.holds Tryd.pinned (.plain (OpenSpec.ofChange shaRoundSpec)) shaRoundCard

/-- THE TIED CARD OF 'affidavitlaw02.ShaPieces'. -/
def shaPiecesCard : Claim7 := { stood := { row := shaPiecesRow, standIns := [], harness := (true, "fa5fa9aa7ee47fea8d393da12a86fa97fedd28b06c6046986fea520d6d104cb7"), looks := true }, kinds := [], alts := [], laidByText := true, laidKinds := [.data, .data], laidTests := true, laidLooks := .later }
def ShaPiecesCardSaid : Prop := Claim7.holds Tryd.pinned (.plain (OpenSpec.ofChange shaPiecesSpec)) shaPiecesCard

/-- THE TIED CARD OF 'affidavitlaw02.ShaFresh'. -/
def shaFreshCard : Claim7 := { stood := { row := shaFreshRow, standIns := [], harness := (true, "fa5fa9aa7ee47fea8d393da12a86fa97fedd28b06c6046986fea520d6d104cb7"), looks := true }, kinds := [], alts := [], laidByText := true, laidKinds := [.data, .data], laidTests := true, laidLooks := .later }
def ShaFreshCardSaid : Prop := Claim7.holds Tryd.pinned (.plain (OpenSpec.ofChange shaFreshSpec)) shaFreshCard

/-- THE TIED CARD OF 'affidavitlaw02.ShaFolds'. -/
def shaFoldsCard : Claim7 := { stood := { row := shaFoldsRow, standIns := [], harness := (true, "fa5fa9aa7ee47fea8d393da12a86fa97fedd28b06c6046986fea520d6d104cb7"), looks := true }, kinds := [], alts := [], laidByText := true, laidKinds := [.data, .data], laidTests := true, laidLooks := .later }
def ShaFoldsCardSaid : Prop := Claim7.holds Tryd.pinned (.plain (OpenSpec.ofChange shaFoldsSpec)) shaFoldsCard

/-- THE TIED CARD OF 'affidavitlaw02.ShaTaken'. -/
def shaTakenCard : Claim7 := { stood := { row := shaTakenRow, standIns := [], harness := (true, "fa5fa9aa7ee47fea8d393da12a86fa97fedd28b06c6046986fea520d6d104cb7"), looks := true }, kinds := [], alts := [], laidByText := true, laidKinds := [.data, .data], laidTests := true, laidLooks := .later }
def ShaTakenCardSaid : Prop := Claim7.holds Tryd.pinned (.plain (OpenSpec.ofChange shaTakenSpec)) shaTakenCard

/-- THE TIED CARD OF 'affidavitlaw02.ShaSums'. -/
def shaSumsCard : Claim7 := { stood := { row := shaSumsRow, standIns := [], harness := (true, "fa5fa9aa7ee47fea8d393da12a86fa97fedd28b06c6046986fea520d6d104cb7"), looks := true }, kinds := [], alts := [], laidByText := true, laidKinds := [.data, .data], laidTests := true, laidLooks := .later }
def ShaSumsCardSaid : Prop := Claim7.holds Tryd.pinned (.plain (OpenSpec.ofChange shaSumsSpec)) shaSumsCard

/-- THE TIED CARD OF 'affidavitlaw02.ShaKnown'. -/
def shaKnownCard : Claim7 := { stood := { row := shaKnownRow, standIns := [], harness := (true, "fa5fa9aa7ee47fea8d393da12a86fa97fedd28b06c6046986fea520d6d104cb7"), looks := true }, kinds := [], alts := [], laidByText := true, laidKinds := [.data, .data], laidTests := true, laidLooks := .later }
def ShaKnownCardSaid : Prop := Claim7.holds Tryd.pinned (.plain (OpenSpec.ofChange shaKnownSpec)) shaKnownCard

/-- THE TIED CARD OF 'affidavitlaw02.ShaPlays'. -/
def shaPlaysCard : Claim7 := { stood := { row := shaPlaysRow, standIns := [], harness := (true, "fa5fa9aa7ee47fea8d393da12a86fa97fedd28b06c6046986fea520d6d104cb7"), looks := true }, kinds := [], alts := [], laidByText := true, laidKinds := [.data, .data], laidTests := true, laidLooks := .later }
def ShaPlaysCardSaid : Prop := Claim7.holds Tryd.pinned (.plain (OpenSpec.ofChange shaPlaysSpec)) shaPlaysCard

/-- THE SECOND FORM's CARD OF 'affidavitlaw02.ShaOrder'. -/
def shaOrderUptoCard : Claim7 := { stood := { row := shaOrderUptoRow, standIns := [], harness := (true, "fa5fa9aa7ee47fea8d393da12a86fa97fedd28b06c6046986fea520d6d104cb7"), looks := true }, kinds := [], alts := [], laidByText := true, laidKinds := [.data, .data], laidTests := true, laidLooks := .later }
def ShaOrderUptoCardSaid : Prop := Claim7.holds Tryd.pinned (.plain (OpenSpec.upto shaOrderSpec)) shaOrderUptoCard

/-- THE SECOND FORM's CARD OF 'affidavitlaw02.ShaPads'. -/
def shaPadsUptoCard : Claim7 := { stood := { row := shaPadsUptoRow, standIns := [], harness := (true, "fa5fa9aa7ee47fea8d393da12a86fa97fedd28b06c6046986fea520d6d104cb7"), looks := true }, kinds := [], alts := [], laidByText := true, laidKinds := [.data, .data], laidTests := true, laidLooks := .later }
def ShaPadsUptoCardSaid : Prop := Claim7.holds Tryd.pinned (.plain (OpenSpec.upto shaPadsSpec)) shaPadsUptoCard

/-- THE SECOND FORM's CARD OF 'affidavitlaw02.ShaRound'. -/
def shaRoundUptoCard : Claim7 := { stood := { row := shaRoundUptoRow, standIns := [], harness := (true, "fa5fa9aa7ee47fea8d393da12a86fa97fedd28b06c6046986fea520d6d104cb7"), looks := true }, kinds := [], alts := [], laidByText := true, laidKinds := [.data, .data], laidTests := true, laidLooks := .later }
def ShaRoundUptoCardSaid : Prop := Claim7.holds Tryd.pinned (.plain (OpenSpec.upto shaRoundSpec)) shaRoundUptoCard

/-- THE SECOND FORM's CARD OF 'affidavitlaw02.ShaPieces'. -/
def shaPiecesUptoCard : Claim7 := { stood := { row := shaPiecesUptoRow, standIns := [], harness := (true, "fa5fa9aa7ee47fea8d393da12a86fa97fedd28b06c6046986fea520d6d104cb7"), looks := true }, kinds := [], alts := [], laidByText := true, laidKinds := [.data, .data], laidTests := true, laidLooks := .later }
def ShaPiecesUptoCardSaid : Prop := Claim7.holds Tryd.pinned (.plain (OpenSpec.upto shaPiecesSpec)) shaPiecesUptoCard

/-- THE SECOND FORM's CARD OF 'affidavitlaw02.ShaFresh'. -/
def shaFreshUptoCard : Claim7 := { stood := { row := shaFreshUptoRow, standIns := [], harness := (true, "fa5fa9aa7ee47fea8d393da12a86fa97fedd28b06c6046986fea520d6d104cb7"), looks := true }, kinds := [], alts := [], laidByText := true, laidKinds := [.data, .data], laidTests := true, laidLooks := .later }
def ShaFreshUptoCardSaid : Prop := Claim7.holds Tryd.pinned (.plain (OpenSpec.upto shaFreshSpec)) shaFreshUptoCard

/-- THE SECOND FORM's CARD OF 'affidavitlaw02.ShaFolds'. -/
def shaFoldsUptoCard : Claim7 := { stood := { row := shaFoldsUptoRow, standIns := [], harness := (true, "fa5fa9aa7ee47fea8d393da12a86fa97fedd28b06c6046986fea520d6d104cb7"), looks := true }, kinds := [], alts := [], laidByText := true, laidKinds := [.data, .data], laidTests := true, laidLooks := .later }
def ShaFoldsUptoCardSaid : Prop := Claim7.holds Tryd.pinned (.plain (OpenSpec.upto shaFoldsSpec)) shaFoldsUptoCard

/-- THE SECOND FORM's CARD OF 'affidavitlaw02.ShaTaken'. -/
def shaTakenUptoCard : Claim7 := { stood := { row := shaTakenUptoRow, standIns := [], harness := (true, "fa5fa9aa7ee47fea8d393da12a86fa97fedd28b06c6046986fea520d6d104cb7"), looks := true }, kinds := [], alts := [], laidByText := true, laidKinds := [.data, .data], laidTests := true, laidLooks := .later }
def ShaTakenUptoCardSaid : Prop := Claim7.holds Tryd.pinned (.plain (OpenSpec.upto shaTakenSpec)) shaTakenUptoCard

/-- THE SECOND FORM's CARD OF 'affidavitlaw02.ShaSums'. -/
def shaSumsUptoCard : Claim7 := { stood := { row := shaSumsUptoRow, standIns := [], harness := (true, "fa5fa9aa7ee47fea8d393da12a86fa97fedd28b06c6046986fea520d6d104cb7"), looks := true }, kinds := [], alts := [], laidByText := true, laidKinds := [.data, .data], laidTests := true, laidLooks := .later }
def ShaSumsUptoCardSaid : Prop := Claim7.holds Tryd.pinned (.plain (OpenSpec.upto shaSumsSpec)) shaSumsUptoCard

/-- THE SECOND FORM's CARD OF 'affidavitlaw02.ShaKnown'. -/
def shaKnownUptoCard : Claim7 := { stood := { row := shaKnownUptoRow, standIns := [], harness := (true, "fa5fa9aa7ee47fea8d393da12a86fa97fedd28b06c6046986fea520d6d104cb7"), looks := true }, kinds := [], alts := [], laidByText := true, laidKinds := [.data, .data], laidTests := true, laidLooks := .later }
def ShaKnownUptoCardSaid : Prop := Claim7.holds Tryd.pinned (.plain (OpenSpec.upto shaKnownSpec)) shaKnownUptoCard

/-- THE SECOND FORM's CARD OF 'affidavitlaw02.ShaPlays'. -/
def shaPlaysUptoCard : Claim7 := { stood := { row := shaPlaysUptoRow, standIns := [], harness := (true, "fa5fa9aa7ee47fea8d393da12a86fa97fedd28b06c6046986fea520d6d104cb7"), looks := true }, kinds := [], alts := [], laidByText := true, laidKinds := [.data, .data], laidTests := true, laidLooks := .later }
def ShaPlaysUptoCardSaid : Prop := Claim7.holds Tryd.pinned (.plain (OpenSpec.upto shaPlaysSpec)) shaPlaysUptoCard
end Rows
end Go.Proofs.YtgblndddcbfdiaaDoor
