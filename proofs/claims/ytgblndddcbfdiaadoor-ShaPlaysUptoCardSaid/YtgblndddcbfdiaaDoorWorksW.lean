/-
  WALKS: abc, works.
-/
import Derived.Test.YtgblndddcbfdiaaDoorShaBW
import Derived.Lib.SlBytesConst
namespace Go.Proofs.YtgblndddcbfdiaaDoor
open Go Go.RowKit Go.Sha Go.Aff

set_option maxHeartbeats 1000000 in
set_option maxRecDepth 100000 in
theorem abc_any (w : World) : Calls Tryd.prog 36 #[] w fun e w' => e = .returned (.agg (vb abcB).toArray) ∧ Keeps (fun _ => False) w w' := by
  go_enter Tryd.func36, Tryd.ntmps36
  go_wp2_with ((with_reducible show wpList _ _ _ (⟨none, Op.store 23 _ _, _, _, _, _⟩ :: _) _ _); refine wpList_store_whole rfl 23 _ _ rfl (vb abcB) rfl rfl (Blk.new w 23 (List.replicate 32 (Value.int .u8 0))) rfl (by kernel_rfl) (vb_one _) ?_)
  refine bodyPost_ret (results_blk rfl _ _ rfl ((Blk.new w 23 (List.replicate 32 (Value.int .u8 0))).setRow (vb abcB)) Tryd.underlying23 rfl (by kernel_rfl)) rfl ⟨rfl, ((Keeps.refl _ _).alloc _).setRow (.inr (Nat.le_refl _)) _⟩

set_option maxHeartbeats 1000000 in
set_option maxRecDepth 100000 in
theorem works_any (w : World) (hG : Glob w) : Calls Tryd.prog 15 #[] w fun e w' => e = .returned (.bool true) ∧ Keeps (fun _ => False) w w' := by
  have heq := fun wx => digest_eql wx abcB abcB rfl rfl
  have kc := fun (w : World) (C : Array Value) (n c : Nat) => Lib.run_convert_bytes_const (P := Tryd.prog) w 26 5 C n c Tryd.underlying26 Tryd.underlying5
  have hs := sums_any _ (hG.keep (((Keeps.refl (fun _ => False) w).alloc _).alloc _) (fun _ h => h.elim)) _ 1 [[97, 98, 99]] (rd_const w [97, 98, 99] (by intro x hx; simp at hx; omega)) (by simp) (by simp)
  have es : sumF first 0 [[97, 98, 99]].flatten = abcB := sum_abc
  rw [es] at hs
  have HS := Lib.hid hs
  clear hG hs
  go_enter Tryd.func15, Tryd.ntmps15
  go_wp2_with (first
    | (go_at_call 20; refine HS.out.mono ?_; rintro e w1 ⟨rfl, hk1⟩)
    | (go_at_call 36; refine (abc_any _).mono ?_; rintro e w2 ⟨rfl, hk2⟩))
  go_ret
  exact ⟨rfl, ((((Keeps.refl (fun _ => False) w).alloc _).alloc _).trans hk1 (fun _ _ h => h)).trans hk2 (fun _ _ h => h)⟩
end Go.Proofs.YtgblndddcbfdiaaDoor
