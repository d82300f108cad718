/-
  What all cards of this seat share: the listed variables, a witness world.
-/
import Derived.Test.YtnlnbgjpbnjjfaaDoorHashW
import Derived.Test.YtnlnbgjpbnjjfaaDoorOpen
import Derived.Test.YtnlnbgjpbnjjfaaDoorCards
import Derived.Test.YtnlnbgjpbnjjfaaDoorTie
import Derived.ProofKit
import Derived.Deep.DeepHandedRow
import Derived.Lib.LaidTab
import Derived.Stop.LaidErr
namespace Go.Proofs.YtnlnbgjpbnjjfaaDoor
open Go Go.RowKit Go.Sha Go.Aff

theorem own : ownKnob Tryd.prog.godebug = none := by kernel_rfl
theorem laidOut : laidOutB Tryd.prog = true := by kernel_rfl
theorem gFirst : Tryd.prog.globalNamed "affidavit/sha.first" = some 0 := by kernel_rfl
theorem gConst : Tryd.prog.globalNamed "affidavit/sha.constants" = some 1 := by kernel_rfl
theorem gFirstT : (Tryd.prog.globals[0]?).map (·.type) = some 96 := by kernel_rfl
theorem gConstT : (Tryd.prog.globals[1]?).map (·.type) = some 108 := by kernel_rfl
theorem cellsU32 : Tryd.prog.cellsOf 95 = 1 := by kernel_rfl
theorem cells8U32 : Tryd.prog.cellsOf 96 = 8 := by kernel_rfl
theorem cells64U32 : Tryd.prog.cellsOf 108 = 64 := by kernel_rfl

set_option maxRecDepth 100000 in
/-- What the listed variables hold, out of a row's own condition. -/
theorem glob_of_laid {W : World} (h : laidMetH Tryd.prog [("affidavit/sha.first", Rows.laid_affidavit_sha_first), ("affidavit/sha.constants", Rows.laid_affidavit_sha_constants)] W) : Glob W := by
  have h1 : laidMet Tryd.prog [("affidavit/sha.first", Lib.tabData .u32 firstL), ("affidavit/sha.constants", Lib.tabData .u32 K)] W := h
  have a := Lib.tabIs_of_head gFirst gFirstT Tryd.underlying96 Tryd.underlying95 cellsU32 cells8U32 h1
  have b := Lib.tabIs_of_head gConst gConstT Tryd.underlying108 Tryd.underlying95 cellsU32 cells64U32 (laidMet.tail h1)
  refine ⟨fun t ht => b.cell gConst t ht, fun i hi => ?_⟩
  exact a.cell gFirst i hi

def fillCells (cs : Array Value) : Obj → Obj
  | .cells _ t frozen => .cells cs t frozen
  | o => o
/-- A WORLD FOR THE WITNESS: the settled one, the two tables holding what their initialisers lay. -/
noncomputable def laidWorld (os : Os) : World :=
  let w := World.holding Tryd.prog os ⟨#[], #[], []⟩
  { w with heap := (w.heap.modify 0 (fillCells (vi .u32 firstL).toArray)).modify 1 (fillCells (vi .u32 K).toArray) }
end Go.Proofs.YtnlnbgjpbnjjfaaDoor
