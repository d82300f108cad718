/-
  DERIVED. GIVEN WITH THE SEED: THE CARDS: each row of YtinonjfnhedlpaaDoorRows.lean that lists a variable, with what it lists TIED to the program's text (the seventh form; the later family's looks); each row that meets fmt, with fmt's text TOLD by the authors' own Lean function (tested against real Go, not proved from fmt's source: count such statements apart). THE CARD IS WHAT COUNTS. Prove the row's statement (the work); the ties are given (YtinonjfnhedlpaaDoorTie.lean); close each card by the builder's one call (the guide's Derived/Test/ToyasCard.lean, 'card_holds'). Laid BY PROGRAM, IN A SANDBOX (cutbox-door.mjs). By AI agents, Wed Nov 11 2026. No macro, syntax, notation, axiom, sorry.
-/
import Derived.Test.YtinonjfnhedlpaaDoorRows
import GoSem.ClaimSeven
namespace Go.Proofs.YtinonjfnhedlpaaDoor
namespace Rows

/-- THE TIED CARD OF 'affidavitlaw08.FaultFound'. -/
def faultFoundCard : Claim7 := { stood := { row := faultFoundRow, standIns := [], harness := (true, "151f65331768e6080eb7643f4b60de1f2f2f5de09c8c9eb1f56a3b2404f49363"), looks := true }, kinds := [], alts := [], laidByText := true, laidKinds := [.handle], laidTests := true, laidLooks := .later }
def FaultFoundCardSaid : Prop := Claim7.holds Tryd.pinned (.plain (OpenSpec.ofChange faultFoundSpec)) faultFoundCard

/-- THE SECOND FORM's CARD OF 'affidavitlaw08.FaultFound'. -/
def faultFoundUptoCard : Claim7 := { stood := { row := faultFoundUptoRow, standIns := [], harness := (true, "151f65331768e6080eb7643f4b60de1f2f2f5de09c8c9eb1f56a3b2404f49363"), looks := true }, kinds := [], alts := [], laidByText := true, laidKinds := [.handle], laidTests := true, laidLooks := .later }
def FaultFoundUptoCardSaid : Prop := Claim7.holds Tryd.pinned (.plain (OpenSpec.upto faultFoundSpec)) faultFoundUptoCard
end Rows
end Go.Proofs.YtinonjfnhedlpaaDoor
