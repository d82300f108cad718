/-
  == of pairs of roots.
-/
import Derived.Test.YtknecjjdegngfaaDoorClimbTW
set_option linter.unusedSimpArgs false
namespace Go.Proofs.YtknecjjdegngfaaDoor
open Go Go.RowKit Go.Sha Go.Aff Go.Book
set_option maxRecDepth 100000 in
theorem dig_in (D : List Int) (hD : D.length = 32) (W : World) : (Op.equalIn 9999 24 (.agg (vb D).toArray) (.agg (vb D).toArray)).run Tryd.prog W = .ok true W := by
  obtain ⟨i, hi, hsz⟩ := Option.map_eq_some_iff.1 (show (Tryd.prog.info? 5).map (·.size) = some 1 by kernel_rfl)
  have hs : Tryd.prog.cellsOf 5 = 1 := by simp [Program.cellsOf, hi, hsz]
  have h9 := run_eqItems_row (P := Tryd.prog) W 9997 5 .u8 Tryd.underlying5 D D (List.range 32) (by intro i hi; simp at hi; omega)
  rw [run_equalIn_array W 9998 _ _ Tryd.underlying24 hi, hs]
  unfold vb
  rw [h9]
  simp
set_option maxRecDepth 100000 in
theorem two_self (s : List Int) (hs : s.length = 64) (W : World) : (Op.equalIn 10000 95 (.agg (vb s).toArray) (.agg (vb s).toArray)).run Tryd.prog W = .ok true W := by
  rw [run_equalIn_agg W 9999 95 _ _ (by kernel_rfl) (by kernel_rfl)]
  have hf : Tryd.prog.fieldsOf 95 = #[{ name := "old", type := 24, offset := 0, embedded := false, tag := "", pkgPath := "affidavit/book", byteOffset := 0 }, { name := "all", type := 24, offset := 32, embedded := false, tag := "", pkgPath := "affidavit/book", byteOffset := 32 }] := by kernel_rfl
  rw [hf]
  have e1 : (List.take 32 (vb s)) = vb (s.take 32) := by simp [vb, List.map_take]
  have e2 : (List.take 32 (List.drop 32 (vb s))) = vb ((s.drop 32).take 32) := by simp [vb, List.map_take, List.map_drop]
  have d1 := dig_in (s.take 32) (by rw [List.length_take]; omega)
  have d2 := dig_in ((s.drop 32).take 32) (by rw [List.length_take, List.length_drop]; omega)
  simp [Op.eqFields, part, e1, e2, d1, d2]
end Go.Proofs.YtknecjjdegngfaaDoor
