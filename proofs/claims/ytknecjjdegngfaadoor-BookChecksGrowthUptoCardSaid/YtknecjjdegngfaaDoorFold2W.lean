/-
  WALKS: Fold of the book.
-/
import Derived.Test.YtknecjjdegngfaaDoorFoldRW
set_option linter.unusedSimpArgs false
namespace Go.Proofs.YtknecjjdegngfaaDoor
open Go Go.RowKit Go.Sha Go.Aff Go.Book
/-- A Spot as an error. -/
abbrev spotV (k i : Int) : Value := .iface 79 (.agg #[.int .i64 k, .int .i64 i])
set_option maxRecDepth 100000 in
set_option maxHeartbeats 4000000 in
theorem fold_arg (w : World) (n : Int) (A : Option Addr) (m c : Nat) (hn : n < 0 ∨ n > 9007199254740991) :
    Calls Tryd.prog 19 #[.int .i64 n, .slice A m c] w fun e w' => e = .returned (.tuple #[.agg (vb zeroD).toArray, errno 2]) ∧ Keeps (fun _ => False) w w' := by
  have HZ := Lib.hid (Blk.new w 24 (List.replicate 32 (Value.int .u8 0)))
  rcases hn with hn | hn
  all_goals
    go_enter Tryd.func19, Tryd.ntmps19
    go_wp2_with ((with_reducible show wpList _ _ _ (⟨none, Op.store 24 _ _, _, _, _, _⟩ :: _) _ _); refine wpList_store_whole rfl 24 _ _ rfl (vb zeroD) rfl rfl HZ.out rfl (by kernel_rfl) (vb_one _) ?_)
    refine bodyPost_ret (results_blk_tmp rfl _ _ rfl (HZ.out.setRow (vb zeroD)) Tryd.underlying24 rfl infoZ) rfl ⟨rfl, ((Keeps.refl _ w).alloc _).setRow (.inr (Nat.le_refl _)) _⟩
set_option maxRecDepth 100000 in
set_option maxHeartbeats 4000000 in
theorem fold_proof (w : World) (n : Nat) (A : Option Addr) (m c : Nat) (hn : n ≤ 9007199254740991) (hm : m ≠ pc n) :
    Calls Tryd.prog 19 #[.int .i64 n, .slice A m c] w fun e w' => e = .returned (.tuple #[.agg (vb zeroD).toArray, spotV 270 (pc n : Nat)]) ∧ Keeps (fun _ => False) w w' := by
  have HZ := Lib.hid (Blk.new w 24 (List.replicate 32 (Value.int .u8 0)))
  have HO := Lib.hid fun W => ones_any W n (by omega)
  obtain ⟨p, hp⟩ : ∃ p, p = pc n := ⟨_, rfl⟩
  rw [← hp] at HO hm ⊢
  have hm' : ((m : Int) == (p : Int)) = false := by simp; omega
  have w1 : IntKind.u64.wrap (n : Int) = n := IntWalk.u64_in _ (by omega)
  clear hp hm
  go_enter Tryd.func19, Tryd.ntmps19
  go_wp2_with (first
    | (go_at_call 46; refine (HO.out _).mono ?_; rintro e w1 ⟨rfl, rfl⟩)
    | ((with_reducible show wpList _ _ _ (⟨none, Op.store 24 _ _, _, _, _, _⟩ :: _) _ _); refine wpList_store_whole rfl 24 _ _ rfl (vb zeroD) rfl rfl HZ.out rfl (by kernel_rfl) (vb_one _) ?_))
  refine bodyPost_ret (results_blk_tmp rfl _ _ rfl (HZ.out.setRow (vb zeroD)) Tryd.underlying24 rfl infoZ) rfl ⟨rfl, ((Keeps.refl _ w).alloc _).setRow (.inr (Nat.le_refl _)) _⟩
end Go.Proofs.YtknecjjdegngfaaDoor
