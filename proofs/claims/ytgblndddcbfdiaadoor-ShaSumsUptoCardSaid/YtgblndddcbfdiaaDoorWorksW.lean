/-
  WALKS: abc, works.
-/
import Derived.Test.YtgblndddcbfdiaaDoorSumsW
import Derived.Test.YtgblndddcbfdiaaDoorQEq
import Derived.Lib.SlBytesConst
namespace Go.Sha
open Go Go.Aff
/-- The digest of abc. -/
def abcB : List Int := [0xba, 0x78, 0x16, 0xbf, 0x8f, 0x01, 0xcf, 0xea, 0x41, 0x41, 0x40, 0xde, 0x5d, 0xae, 0x22, 0x23, 0xb0, 0x03, 0x61, 0xa3, 0x96, 0x17, 0x7a, 0x9c, 0xb4, 0x10, 0xff, 0x61, 0xf2, 0x00, 0x15, 0xad]
set_option maxRecDepth 100000 in
theorem sum_abc : sumF first 0 [97, 98, 99] = abcB := by decide +kernel
end Go.Sha
namespace Go.Proofs.YtgblndddcbfdiaaDoor
open Go Go.RowKit Go.Sha Go.Aff

set_option maxHeartbeats 1000000 in
set_option maxRecDepth 100000 in
theorem abc_any (w : World) : Calls Tryd.prog 36 #[] w fun e w' => e = .returned (.agg (vb abcB).toArray) ∧ Keeps (fun _ => False) w w' := by
  go_enter Tryd.func36, Tryd.ntmps36
  go_wp2_with ((with_reducible show wpList _ _ _ (⟨none, Op.store 23 _ _, _, _, _, _⟩ :: _) _ _); refine wpList_store_whole rfl 23 _ _ rfl (vb abcB) rfl rfl (Blk.new w 23 (List.replicate 32 (Value.int .u8 0))) rfl (by kernel_rfl) (vb_one _) ?_)
  refine bodyPost_ret (results_blk rfl _ _ rfl ((Blk.new w 23 (List.replicate 32 (Value.int .u8 0))).setRow (vb abcB)) Tryd.underlying23 rfl (by kernel_rfl)) rfl ⟨rfl, ((Keeps.refl _ _).alloc _).setRow (.inr (Nat.le_refl _)) _⟩

theorem digest_eql (w : World) (xs ys : List Int) (hx : xs.length = 32) (hy : ys.length = 32) : (binOp .eql 23 (.agg (vb xs).toArray) (.agg (vb ys).toArray)).run Tryd.prog w = .ok (.bool (decide (xs = ys))) w :=
  run_eql_row w Tryd.underlying23 Tryd.underlying5 (by kernel_rfl) xs ys hx hy

/-- Constant bytes, handed on as the only part. -/
theorem rd_const (w : World) (bs : List Int) (hb : IsBytes bs) : RdParts ((w.alloc (.cells (vb bs).toArray 5 (bs.length, bs.length + 1))).alloc (.cells #[Value.slice (some ⟨w.heap.size, 0, none⟩) bs.length bs.length] 26)) (some ⟨w.heap.size + 1, 0, none⟩) [bs] := by
  have h1 : (w.alloc (.cells (vb bs).toArray 5 (bs.length, bs.length + 1))).heap[w.heap.size]? = some (.cells (vb bs).toArray 5 (bs.length, bs.length + 1)) := heap_alloc_new w _
  have h2 := heap_alloc_new (w.alloc (.cells (vb bs).toArray 5 (bs.length, bs.length + 1))) (.cells #[Value.slice (some ⟨w.heap.size, 0, none⟩) bs.length bs.length] 26)
  rw [World.size_alloc] at h2
  refine ⟨[Value.slice (some ⟨w.heap.size, 0, none⟩) bs.length bs.length], ⟨rfl, fun _ => ⟨_, 0, rfl, fun j _ => ?_⟩⟩, ?_⟩
  · rw [Nat.zero_add, cell_of_row _ _ j _ _ _ h2]; simp
  · intro i b hi
    cases i with
    | zero =>
      simp at hi
      subst hi
      refine ⟨_, _, rfl, ⟨by simp [vb], fun _ => ⟨w.heap.size, 0, rfl, fun j _ => ?_⟩⟩, hb, Nat.le_refl _⟩
      rw [Nat.zero_add, cell_of_row _ _ j _ _ _ ((Below.heap_alloc _ _ w.heap.size (by simp)).trans h1)]; simp
    | succ i => simp at hi

set_option maxHeartbeats 1000000 in
set_option maxRecDepth 100000 in
theorem works_any (w : World) (hG : Glob w) : Calls Tryd.prog 15 #[] w fun e w' => e = .returned (.bool true) ∧ Keeps (fun _ => False) w w' := by
  have heq := fun wx => digest_eql wx abcB abcB rfl rfl
  have kc := fun (w : World) (C : Array Value) (n c : Nat) => Lib.run_convert_bytes_const (P := Tryd.prog) w 26 5 C n c Tryd.underlying26 Tryd.underlying5
  have hs := sums_any _ (hG.keep (((Keeps.refl (fun _ => False) w).alloc _).alloc _) (fun _ h => h.elim)) _ 1 [[97, 98, 99]] (rd_const w [97, 98, 99] (by intro x hx; simp at hx; omega)) (by simp) (by simp)
  have es : sumF first 0 [[97, 98, 99]].flatten = abcB := sum_abc
  rw [es] at hs
  have HS := Lib.hid hs
  clear hG hs
  go_enter Tryd.func15, Tryd.ntmps15
  go_wp2_with (first
    | (go_at_call 20; refine HS.out.mono ?_; rintro e w1 ⟨rfl, hk1⟩)
    | (go_at_call 36; refine (abc_any _).mono ?_; rintro e w2 ⟨rfl, hk2⟩))
  go_ret
  exact ⟨rfl, ((((Keeps.refl (fun _ => False) w).alloc _).alloc _).trans hk1 (fun _ _ h => h)).trans hk2 (fun _ _ h => h)⟩
end Go.Proofs.YtgblndddcbfdiaaDoor
