/-
  Digests held against one another; constant bytes as parts.
-/
import Derived.Test.YtnlnbgjpbnjjfaaDoorSumsW
import Derived.Test.YtnlnbgjpbnjjfaaDoorQEq
import Derived.Lib.SlBytesConst
namespace Go.Sha
open Go Go.Aff
/-- The digest of abc. -/
def abcB : List Int := [0xba, 0x78, 0x16, 0xbf, 0x8f, 0x01, 0xcf, 0xea, 0x41, 0x41, 0x40, 0xde, 0x5d, 0xae, 0x22, 0x23, 0xb0, 0x03, 0x61, 0xa3, 0x96, 0x17, 0x7a, 0x9c, 0xb4, 0x10, 0xff, 0x61, 0xf2, 0x00, 0x15, 0xad]
set_option maxRecDepth 100000 in
theorem sum_abc : sumF first 0 [97, 98, 99] = abcB := by decide +kernel
end Go.Sha
namespace Go.Proofs.YtnlnbgjpbnjjfaaDoor
open Go Go.RowKit Go.Sha Go.Aff

theorem digest_eql (w : World) (xs ys : List Int) (hx : xs.length = 32) (hy : ys.length = 32) : (binOp .eql 41 (.agg (vb xs).toArray) (.agg (vb ys).toArray)).run Tryd.prog w = .ok (.bool (decide (xs = ys))) w :=
  run_eql_row w Tryd.underlying41 Tryd.underlying5 (by kernel_rfl) xs ys hx hy

/-- Constant bytes, handed on as the only part. -/
theorem rd_const (w : World) (bs : List Int) (hb : IsBytes bs) : RdParts ((w.alloc (.cells (vb bs).toArray 5 (bs.length, bs.length + 1))).alloc (.cells #[Value.slice (some ⟨w.heap.size, 0, none⟩) bs.length bs.length] 22)) (some ⟨w.heap.size + 1, 0, none⟩) [bs] := by
  have h1 : (w.alloc (.cells (vb bs).toArray 5 (bs.length, bs.length + 1))).heap[w.heap.size]? = some (.cells (vb bs).toArray 5 (bs.length, bs.length + 1)) := heap_alloc_new w _
  have h2 := heap_alloc_new (w.alloc (.cells (vb bs).toArray 5 (bs.length, bs.length + 1))) (.cells #[Value.slice (some ⟨w.heap.size, 0, none⟩) bs.length bs.length] 22)
  rw [World.size_alloc] at h2
  refine ⟨[Value.slice (some ⟨w.heap.size, 0, none⟩) bs.length bs.length], ⟨rfl, fun _ => ⟨_, 0, rfl, fun j _ => ?_⟩⟩, ?_⟩
  · rw [Nat.zero_add, cell_of_row _ _ j _ _ _ h2]; simp
  · intro i b hi
    cases i with
    | zero =>
      simp at hi
      subst hi
      refine ⟨_, _, rfl, ⟨by simp [vb], fun _ => ⟨w.heap.size, 0, rfl, fun j _ => ?_⟩⟩, hb, Nat.le_refl _⟩
      rw [Nat.zero_add, cell_of_row _ _ j _ _ _ ((Below.heap_alloc _ _ w.heap.size (by simp)).trans h1)]; simp
    | succ i => simp at hi
end Go.Proofs.YtnlnbgjpbnjjfaaDoor
