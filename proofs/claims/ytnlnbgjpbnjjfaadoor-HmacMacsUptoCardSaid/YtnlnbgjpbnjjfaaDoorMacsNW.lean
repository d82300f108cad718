/-
  WALKS (laws of hmac): what a Mac that is not there answers; none.
-/
import Derived.Test.YtnlnbgjpbnjjfaaDoorMacAW
import Derived.Test.YtnlnbgjpbnjjfaaDoorExpandW
import Derived.Test.YtnlnbgjpbnjjfaaDoorHmacBlocksW
set_option linter.unusedSimpArgs false
namespace Go.Proofs.YtnlnbgjpbnjjfaaDoor
open Go Go.RowKit Go.Sha Go.Aff Go.Mac

abbrev noughts32 : List Int := List.replicate 32 0
set_option maxRecDepth 100000 in
theorem mwrite_nil (w : World) (b : Value) : Calls Tryd.prog 33 #[.pointer none, b] w fun e w' => e = .returned (errno 1) ∧ w = w' := by
  go_enter Tryd.func33, Tryd.ntmps33
  go_wp2
  go_ret
  exact ⟨rfl, rfl⟩
set_option maxRecDepth 100000 in
theorem mreset_nil (w : World) : Calls Tryd.prog 36 #[.pointer none] w fun e w' => e = .returned (errno 1) ∧ w = w' := by
  go_enter Tryd.func36, Tryd.ntmps36
  go_wp2
  go_ret
  exact ⟨rfl, rfl⟩
set_option maxRecDepth 100000 in
theorem mlen_nil (w : World) : Calls Tryd.prog 35 #[.pointer none] w fun e w' => e = .returned (.int .i64 0) ∧ w = w' := by
  go_enter Tryd.func35, Tryd.ntmps35
  go_wp2
  go_ret
  exact ⟨rfl, rfl⟩
set_option maxRecDepth 100000 in
theorem mcopy_nil (w : World) : Calls Tryd.prog 32 #[.pointer none] w fun e w' => e = .returned (.pointer none) ∧ w = w' := by
  go_enter Tryd.func32, Tryd.ntmps32
  go_wp2
  go_ret
  exact ⟨rfl, rfl⟩
set_option maxRecDepth 100000 in
theorem msum_nil (w : World) : Calls Tryd.prog 34 #[.pointer none] w fun e w' => e = .returned (.agg (vb noughts32).toArray) ∧ Keeps (fun _ => False) w w' := by
  have HZ := Lib.hid (Blk.new w 41 (List.replicate 32 (Value.int .u8 0)))
  go_enter Tryd.func34, Tryd.ntmps34
  go_wp2_with ((with_reducible show wpList _ _ _ (⟨none, Op.store 41 _ _, _, _, _, _⟩ :: _) _ _); refine wpList_store_whole rfl 41 _ _ rfl (vb noughts32) rfl rfl HZ.out rfl (by kernel_rfl) (vb_one _) ?_)
  refine bodyPost_ret (results_blk rfl _ _ rfl (HZ.out.setRow (vb noughts32)) Tryd.underlying41 rfl (by kernel_rfl)) rfl ⟨rfl, ((Keeps.refl _ w).alloc _).setRow (.inr (Nat.le_refl _)) _⟩

set_option maxHeartbeats 1000000 in
set_option maxRecDepth 100000 in
theorem none_any (w : World) (k z : Int) (b : Value) : Calls Tryd.prog 40 #[.agg #[.int .i64 k, .int .i64 z, b]] w fun e w' => e = .returned (.bool true) ∧ Keeps (fun _ => False) w w' := by
  have heq : ∀ W, (binOp .eql 41 (.agg (vb noughts32).toArray) (.agg #[.int .u8 0, .int .u8 0, .int .u8 0, .int .u8 0, .int .u8 0, .int .u8 0, .int .u8 0, .int .u8 0, .int .u8 0, .int .u8 0, .int .u8 0, .int .u8 0, .int .u8 0, .int .u8 0, .int .u8 0, .int .u8 0, .int .u8 0, .int .u8 0, .int .u8 0, .int .u8 0, .int .u8 0, .int .u8 0, .int .u8 0, .int .u8 0, .int .u8 0, .int .u8 0, .int .u8 0, .int .u8 0, .int .u8 0, .int .u8 0, .int .u8 0, .int .u8 0])).run Tryd.prog W = .ok (.bool true) W := dig_self noughts32 rfl
  have h5 : k = 0 ∨ k = 1 ∨ k = 2 ∨ k = 3 ∨ (k ≠ 0 ∧ k ≠ 1 ∧ k ≠ 2 ∧ k ≠ 3) := by omega
  rcases h5 with rfl | rfl | rfl | rfl | ⟨h0, h1, h2, h3⟩
  all_goals
    go_enter Tryd.func40, Tryd.ntmps40
    go_wp2_with (first
      | (go_at_call 33; refine (mwrite_nil _ _).mono ?_; rintro e w1 ⟨rfl, rfl⟩)
      | (go_at_call 34; refine (msum_nil _).mono ?_; rintro e w1 ⟨rfl, hk1⟩; have HK1 := Lib.hid hk1; clear hk1)
      | (go_at_call 35; refine (mlen_nil _).mono ?_; rintro e w1 ⟨rfl, rfl⟩)
      | (go_at_call 36; refine (mreset_nil _).mono ?_; rintro e w1 ⟨rfl, rfl⟩)
      | (go_at_call 32; refine (mcopy_nil _).mono ?_; rintro e w1 ⟨rfl, rfl⟩)
      | (go_at_call 37; refine (number_any _ _).mono ?_; rintro e w1 ⟨rfl, rfl⟩))
    go_ret
    first
      | exact ⟨rfl, (Keeps.refl _ w).alloc _⟩
      | exact ⟨rfl, ((Keeps.refl _ w).alloc _).trans HK1.out (fun _ _ h => h)⟩
end Go.Proofs.YtnlnbgjpbnjjfaaDoor
