/-
  WALK: the reference's Room.
-/
import Derived.Test.YtgblndddcbfdiaaDoorRefBW
set_option linter.unusedSimpArgs false
namespace Go.Proofs.YtgblndddcbfdiaaDoor
open Go Go.RowKit Go.Sha Go.Aff
set_option maxRecDepth 100000 in
theorem room_any (w : World) (S : Nat → Int) (nb : Nat) (A : Option Addr) (n c : Nat) (h : 64 * nb + n < 2305843009213693952) (hn : n ≤ 64) (b : Nat) (hb : b ≤ 140737488355328) :
    Calls Tryd.prog 53 #[.agg (hcells S nb (.slice A n c)).toArray, .int .i64 (b : Int)] w fun e w' => e = .returned (.bool (decide (64 * nb + n + b < 2305843009213693952))) ∧ Keeps (fun _ => False) w w' := by
  have hlen := fun W => rlen_any W S nb A n c h hn
  obtain ⟨cs, hcs⟩ : ∃ cs, cs = hcells S nb (.slice A n c) := ⟨_, rfl⟩
  rw [← hcs] at hlen ⊢
  obtain ⟨L, hL⟩ : ∃ L : Int, L = ((64 * nb + n : Nat) : Int) := ⟨_, rfl⟩
  rw [← hL] at hlen
  obtain ⟨B, hB⟩ : ∃ B : Int, B = (b : Int) := ⟨_, rfl⟩
  rw [← hB]
  have hcl : cs.length = 10 := by rw [hcs]; exact hcells_length _ _ _
  have HI : Hid ((Tryd.prog.info? 67).map (·.size) = some cs.length) := Lib.hid (by rw [hcl]; kernel_rfl)
  have w1 : IntKind.u64.wrap B = B := by rw [IntKind.wrap_u64]; omega
  have w2 : IntKind.u64.wrap (2305843009213693952 - L) = 2305843009213693952 - L := by rw [IntKind.wrap_u64]; omega
  have HLEN := Lib.hid hlen
  have HE : Hid (decide (B < 2305843009213693952 - L) = decide (64 * nb + n + b < 2305843009213693952)) := Lib.hid (by rw [decide_eq_decide]; omega)
  have hbx := Blk.new w 67 cs
  have hk1 : Keeps (fun _ => False) w (w.alloc (.cells cs.toArray 67)) := (Keeps.refl _ w).alloc _
  obtain ⟨W1, hW1⟩ : ∃ W1, W1 = w.alloc (.cells cs.toArray 67) := ⟨_, rfl⟩
  rw [← hW1] at hbx hk1
  have HBX := Lib.hid hbx
  have HK1 := Lib.hid hk1
  clear hcs h hL hB hcl hlen hbx hk1 hb hn
  rw [← HE.out]
  clear HE
  go_enter Tryd.func53, Tryd.ntmps53
  go_upto_region 1 with fail
  rw [← hW1]
  clear hW1
  go_wp2_with (first
    | ((with_reducible show wpList _ _ _ (⟨_, Op.load 67 (.tmp 2), _, _, _, _⟩ :: _) _ _); refine wpList_load_whole rfl 67 _ rfl _ rfl HBX.out Tryd.underlying67 rfl HI.out ?_)
    | (go_at_call 54; refine (HLEN.out _).mono ?_; rintro e w2 ⟨rfl, hk2⟩; have HK2 := Lib.hid hk2; clear hk2))
  go_ret
  exact ⟨rfl, HK1.out.trans HK2.out (fun _ _ h => h)⟩
end Go.Proofs.YtgblndddcbfdiaaDoor
