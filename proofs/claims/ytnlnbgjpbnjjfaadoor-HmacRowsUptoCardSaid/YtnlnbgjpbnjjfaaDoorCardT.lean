/-
  What a card shares that lists the tables of the number's digits too.
-/
import Derived.Test.YtnlnbgjpbnjjfaaDoorCardK
import Derived.Lib.AppendIntMem
set_option linter.unusedSimpArgs false
namespace Go.Proofs.YtnlnbgjpbnjjfaaDoor
open Go Go.RowKit Go.Sha Go.Aff
theorem gPow : Tryd.prog.globalNamed "internal/strconv.uint64pow10" = some 2 := by kernel_rfl
theorem gPowT : (Tryd.prog.globals[2]?).map (·.type) = some 124 := by kernel_rfl
theorem cellsU64 : Tryd.prog.cellsOf 97 = 1 := by kernel_rfl
theorem cells20U64 : Tryd.prog.cellsOf 124 = 20 := by kernel_rfl
/-- The tables of the hash and of the number's digits. -/
def GlobT (w : World) : Prop := Glob w ∧ Lib.TabBelow Tryd.prog w.heap.size w "internal/strconv.uint64pow10" .u64 Lib.pow10Tab
set_option maxRecDepth 100000 in
theorem globT_of_laid {W : World} (h : laidMetH Tryd.prog [("math/bits.deBruijn32tab", Rows.laid_math_bits_deBruijn32tab), ("math/bits.deBruijn64tab", Rows.laid_math_bits_deBruijn64tab), ("internal/strconv.uint64pow10", Rows.laid_internal_strconv_uint64pow10), ("affidavit/sha.first", Rows.laid_affidavit_sha_first), ("affidavit/sha.constants", Rows.laid_affidavit_sha_constants)] W) : GlobT W := by
  have h1 : laidMet Tryd.prog [("math/bits.deBruijn32tab", Rows.laid_math_bits_deBruijn32tab), ("math/bits.deBruijn64tab", Rows.laid_math_bits_deBruijn64tab), ("internal/strconv.uint64pow10", Lib.tabData .u64 Lib.pow10Tab), ("affidavit/sha.first", Lib.tabData .u32 firstL), ("affidavit/sha.constants", Lib.tabData .u32 K)] W := h
  have h3 := laidMet.tail (laidMet.tail h1)
  have a := Lib.tabIs_of_head gPow gPowT Tryd.underlying124 Tryd.underlying97 cellsU64 cells20U64 h3
  exact ⟨glob_of_laid (laidMet.tail h3), Lib.tabBelow_of_tabIs a⟩
def datCells : DataW Unit → Array Value
  | .agg l => (l.map fun | .lit (.int k z) => Value.int k z | _ => undef).toArray
  | _ => #[]
/-- A WORLD FOR THE WITNESS. -/
noncomputable def laidWorldT (os : Os) : World :=
  let w := laidWorld os
  { w with heap := ((w.heap.modify 3 (fillCells (datCells Rows.laid_math_bits_deBruijn32tab))).modify 4 (fillCells (datCells Rows.laid_math_bits_deBruijn64tab))).modify 2 (fillCells (datCells Rows.laid_internal_strconv_uint64pow10)) }
end Go.Proofs.YtnlnbgjpbnjjfaaDoor
