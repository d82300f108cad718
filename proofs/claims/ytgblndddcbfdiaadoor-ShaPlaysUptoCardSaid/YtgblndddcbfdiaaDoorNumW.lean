/-
  WALKS: number, Pad, First.
-/
import Derived.Test.YtgblndddcbfdiaaDoorWorksW
import Derived.Test.YtgblndddcbfdiaaDoorShaBW
namespace Go.Proofs.YtgblndddcbfdiaaDoor
open Go Go.RowKit Go.Sha Go.Aff

set_option maxRecDepth 100000 in
theorem number_nil (w : World) : Calls Tryd.prog 17 #[.nilIface] w fun e w' => e = .returned (.int .i64 0) ∧ w = w' := by
  go_enter Tryd.func17, Tryd.ntmps17
  go_wp2
  go_ret
  exact ⟨rfl, rfl⟩
set_option maxRecDepth 100000 in
theorem number_errno (w : World) (n : Int) (h : (n == 0) = false) : Calls Tryd.prog 17 #[errno n] w fun e w' => e = .returned (.int .i64 n) ∧ w = w' := by

  have has := as_errno
  go_enter Tryd.func17, Tryd.ntmps17
  go_wp2
  go_ret
  exact ⟨rfl, rfl⟩

set_option maxRecDepth 100000 in
theorem Pad_long (w : World) (n : Int) (h : 2305843009213693952 ≤ n) : Calls Tryd.prog 16 #[.int .u64 n] w fun e w' => e = .returned (.tuple #[.slice none 0 0, errno 3]) ∧ w = w' := by
  go_enter Tryd.func16, Tryd.ntmps16
  go_wp2
  go_ret2
  exact ⟨rfl, rfl⟩
set_option maxRecDepth 100000 in
theorem Pad_any (w : World) (n : Nat) (h : n < 2305843009213693952) : Calls Tryd.prog 16 #[.int .u64 n] w fun e w' => e = .returned (.tuple #[.slice (some ⟨w.heap.size, 0, none⟩) (padLen n) (padLen n), .nilIface]) ∧ Blk w' w.heap.size 5 (vb (padF n)) ∧ Keeps (fun _ => False) w w' := by
  have h' : ((n : Int)) < 2305843009213693952 := by omega
  have hp := pad_any w n h
  obtain ⟨m, hm⟩ : ∃ m : Int, m = n := ⟨_, rfl⟩
  rw [← hm] at hp h' ⊢
  obtain ⟨PL, hPL⟩ : ∃ PL, PL = padLen n := ⟨_, rfl⟩
  obtain ⟨PF, hPF⟩ : ∃ PF, PF = padF n := ⟨_, rfl⟩
  rw [← hPL, ← hPF] at hp ⊢
  have HP := Lib.hid hp
  clear hp hPL hPF h hm
  go_enter Tryd.func16, Tryd.ntmps16
  go_wp2_with (go_at_call 43; refine HP.out.mono ?_; rintro e w1 ⟨rfl, hb, hk⟩)
  go_ret2
  exact ⟨rfl, hb, hk⟩
end Go.Proofs.YtgblndddcbfdiaaDoor
