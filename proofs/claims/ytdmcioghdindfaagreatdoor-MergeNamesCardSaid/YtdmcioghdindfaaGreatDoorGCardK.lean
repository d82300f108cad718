/-
  What the cards of merge share: the two listed tables of Go's library; a world that holds them.
-/
import Derived.Test.YtdmcioghdindfaaGreatDoorOpenK
import Derived.Test.YtdmcioghdindfaaGreatDoorCards
import Derived.Test.YtdmcioghdindfaaGreatDoorTie
import Derived.ProofKit
import Derived.Deep.DeepHandedRow
import Derived.LaidLaws
import Derived.LaidHandle
import Derived.Stop.Joined
set_option linter.unusedSimpArgs false
namespace Go.Proofs.YtdmcioghdindfaaGreatDoor
open Go Go.RowKit Go.Aff Go.ChangeShapes Go.WideShapes
theorem own : ownKnob Tryz.prog.godebug = none := by kernel_rfl
theorem laidOut : laidOutB Tryz.prog = true := by kernel_rfl
/-- What the row's condition gives a walk. -/
def GlobU (w : World) : Prop := laidMet Tryz.prog [("unicode/utf8.acceptRanges", Rows.laid_unicode_utf8_acceptRanges), ("unicode/utf8.first", Rows.laid_unicode_utf8_first)] w
theorem glob_of_laid {W : World} (h : laidMetH Tryz.prog [("unicode/utf8.acceptRanges", Rows.laid_unicode_utf8_acceptRanges), ("unicode/utf8.first", Rows.laid_unicode_utf8_first)] W) : GlobU W := h
mutual
/-- A datum's cells, side by side. -/
def datL : DataW Unit → List Value
  | .agg l => datLs l
  | .lit (.int k z) => [Value.int k z]
  | _ => [undef]
def datLs : List (DataW Unit) → List Value
  | [] => []
  | d :: l => datL d ++ datLs l
end
def fillCells (cs : Array Value) : Obj → Obj
  | .cells _ t frozen => .cells cs t frozen
  | o => o
/-- A WORLD FOR THE WITNESS: the settled one, the two tables holding what the program's text lays. -/
noncomputable def laidWorld (os : Os) : World :=
  let w := World.holding Tryz.prog os ⟨#[], #[], []⟩
  { w with heap := (w.heap.modify 2 (fillCells (datL Rows.laid_unicode_utf8_first).toArray)).modify 3 (fillCells (datL Rows.laid_unicode_utf8_acceptRanges).toArray) }
end Go.Proofs.YtdmcioghdindfaaGreatDoor
