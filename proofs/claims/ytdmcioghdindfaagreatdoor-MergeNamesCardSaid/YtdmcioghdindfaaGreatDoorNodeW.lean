/-
  WALKS: node: within, refuse, used, put.
-/
import Derived.Test.YtdmcioghdindfaaGreatDoorNAssertW
import Derived.Deep.LoopGhost
import Derived.Deep.CutRange
import Derived.Deep.CutBlock
import Derived.Deep.OwnRows
import Derived.Deep.RegionHeld3
import Derived.Laws.Pointers
import Derived.Recover
import Derived.Deep.DeepCutAuto
set_option linter.unusedSimpArgs false
namespace Go.Proofs.YtdmcioghdindfaaGreatDoor
open Go Go.RowKit Go.Aff Go.Json
set_option maxRecDepth 100000 in
theorem within_any (w : World) (n b d : Int) : Calls Tryz.prog 111 #[.agg #[.int .i64 n, .int .i64 b, .int .i64 d]] w fun e w' => e = .returned (.bool (decide (n ≤ 65536) && (decide (b ≤ 2097152) && decide (d ≤ 512)))) ∧ Keeps (fun _ => False) w w' := by
  have hb := Blk.new w 177 [.int .i64 n, .int .i64 b, .int .i64 d]
  have c0 := hb.cell 0
  have c1 := hb.cell 1
  have c2 := hb.cell 2
  have HK := Lib.hid ((Keeps.refl (fun _ => False) w).alloc (.cells #[.int .i64 n, .int .i64 b, .int .i64 d] 177))
  clear hb
  by_cases h1 : n ≤ 65536
  · by_cases h2 : b ≤ 2097152
    · go_enter Tryz.func111, Tryz.ntmps111
      go_wp2
      go_ret
      exact ⟨by first | (simp [h1, h2]; done) | (simp [h1, h2]; omega), HK.out⟩
    · go_enter Tryz.func111, Tryz.ntmps111
      go_wp2
      go_ret
      exact ⟨by first | (simp [h1, h2]; done) | (simp [h1, h2]; omega), HK.out⟩
  · go_enter Tryz.func111, Tryz.ntmps111
    go_wp2
    go_ret
    exact ⟨by simp [h1]; omega, HK.out⟩
theorem refuse_ok (w : World) (k : Int) : Calls Tryz.prog 76 #[.bool true, .int .i64 k] w fun e w' => e = .returned (.tuple #[]) ∧ w' = w := by
  go_enter Tryz.func76, Tryz.ntmps76
  go_wp2
  go_end0
  exact ⟨rfl, rfl⟩
theorem str_empty (tx : ByteArray) : tx.toList.isEmpty = decide (tx.size = 0) := by
  rw [ByteArray.toList_eq, Bool.eq_iff_iff, decide_eq_true_iff, List.isEmpty_iff]
  constructor
  · intro h
    exact congrArg List.length h
  · intro h
    exact List.length_eq_zero_iff.1 h
/-- A step's cells: its keys lie in a row of texts. -/
def stepV (s : StepV) (A : Option Addr) (c : Nat) : List Value := [.int .i64 s.sort, .bool s.flag, .int .u64 s.bits, .string s.text, .int .i64 s.count, .slice A s.keys.length c]
set_option maxHeartbeats 4000000 in
set_option maxRecDepth 100000 in
theorem used_walk (w : World) (so : Int) (fl : Bool) (bi : Nat) (tx : ByteArray) (cn : Int) (A : Option Addr) (n c : Nat) (b1 b2 b3 e2 e3 e4 e5 e6 z te cz nz : Bool)
    (h1 : decide (1 ≤ so) = b1) (h2 : decide (so ≤ 6) = b2) (h3 : decide (0 ≤ cn) = b3) (k2 : (so == 2) = e2) (k3 : (so == 3) = e3) (k4 : (so == 4) = e4) (k5 : (so == 5) = e5) (k6 : (so == 6) = e6)
    (hz : ((bi : Int) == 0) = z) (he : tx.toList.isEmpty = te) (hc : (cn == 0) = cz) (hn : ((n : Int) == 0) = nz) :
    Calls Tryz.prog 77 #[.agg #[.int .i64 so, .bool fl, .int .u64 bi, .string tx, .int .i64 cn, .slice A n c]] w fun e w' => e = .returned (.bool (((b1 && b2 && b3) && ((!fl || e2) && (z || e3) && (te || e4))) && ((cz || e5) && (nz || e6)))) ∧ Keeps (fun _ => False) w w' := by
  have hb := Blk.new w 53 [.int .i64 so, .bool fl, .int .u64 bi, .string tx, .int .i64 cn, .slice A n c]
  have c0 := hb.cell 0
  have c1 := hb.cell 1
  have c2 := hb.cell 2
  have c3 := hb.cell 3
  have c4 := hb.cell 4
  have c5 := hb.cell 5
  have HK := Lib.hid ((Keeps.refl (fun _ => False) w).alloc (.cells #[.int .i64 so, .bool fl, .int .u64 bi, .string tx, .int .i64 cn, .slice A n c] 53))
  clear hb
  go_enter Tryz.func77, Tryz.ntmps77
  go_upto_region 1 with fail
  go_cut [3] (fun t wx => t = .bool (b1 && b2 && b3) ∧ wx = w.alloc (.cells #[.int .i64 so, .bool fl, .int .u64 bi, .string tx, .int .i64 cn, .slice A n c] 53))
  case first =>
    rcases b1 with _ | _
    · go_wp2
      go_meet
      exact ⟨rfl, rfl⟩
    · rcases b2 with _ | _
      · go_wp2
        go_meet
        exact ⟨rfl, rfl⟩
      · go_wp2
        go_meet
        exact ⟨rfl, rfl⟩
  case rest =>
    obtain ⟨rfl, rfl⟩ := hcut
    obtain ⟨q1, hq1⟩ : ∃ q1, q1 = (b1 && b2 && b3) := ⟨_, rfl⟩
    rw [← hq1]
    have HQ1 := Lib.hid hq1
    clear hq1 h1 h2 h3
    go_upto_region 2 with fail
    go_cut [3] (fun t wx => t = .bool (q1 && ((!fl || e2) && (z || e3) && (te || e4))) ∧ wx = w.alloc (.cells #[.int .i64 so, .bool fl, .int .u64 bi, .string tx, .int .i64 cn, .slice A n c] 53))
    case first =>
      clear k5 k6 hc hn
      rcases q1 with _ | _
      · go_wp2
        go_meet
        exact ⟨rfl, rfl⟩
      · have hfl : (!fl) = !fl := rfl
        rcases fl with _ | _
        · rcases z with _ | _
          · rcases e3 with _ | _
            · go_wp2
              go_meet
              exact ⟨rfl, rfl⟩
            · rcases te with _ | _ <;> rcases e4 with _ | _ <;> (go_wp2; go_meet; exact ⟨rfl, rfl⟩)
          · rcases te with _ | _ <;> rcases e4 with _ | _ <;> (go_wp2; go_meet; exact ⟨rfl, rfl⟩)
        · rcases e2 with _ | _
          · go_wp2
            go_meet
            exact ⟨rfl, rfl⟩
          · rcases z with _ | _
            · rcases e3 with _ | _
              · go_wp2
                go_meet
                exact ⟨rfl, rfl⟩
              · rcases te with _ | _ <;> rcases e4 with _ | _ <;> (go_wp2; go_meet; exact ⟨rfl, rfl⟩)
            · rcases te with _ | _ <;> rcases e4 with _ | _ <;> (go_wp2; go_meet; exact ⟨rfl, rfl⟩)
    case rest =>
      obtain ⟨rfl, rfl⟩ := hcut
      obtain ⟨q2, hq2⟩ : ∃ q2, q2 = (q1 && ((!fl || e2) && (z || e3) && (te || e4))) := ⟨_, rfl⟩
      rw [← hq2]
      have HQ2 := Lib.hid hq2
      clear hq2 k2 k3 k4 hz he
      go_upto_region 3 with fail
      rcases q2 with _ | _
      · go_wp2
        go_ret
        exact ⟨by rw [← HQ1.out, ← HQ2.out]; rfl, HK.out⟩
      · rcases cz with _ | _
        · rcases e5 with _ | _
          · go_wp2
            go_ret
            exact ⟨by rw [← HQ1.out, ← HQ2.out]; rfl, HK.out⟩
          · rcases nz with _ | _ <;> rcases e6 with _ | _ <;> (go_wp2; go_ret; exact ⟨by rw [← HQ1.out, ← HQ2.out]; rfl, HK.out⟩)
        · rcases nz with _ | _ <;> rcases e6 with _ | _ <;> (go_wp2; go_ret; exact ⟨by rw [← HQ1.out, ← HQ2.out]; rfl, HK.out⟩)
theorem used_any (w : World) (s : StepV) (A : Option Addr) (c : Nat) : Calls Tryz.prog 77 #[.agg (stepV s A c).toArray] w fun e w' => e = .returned (.bool (usedF s)) ∧ Keeps (fun _ => False) w w' := by
  obtain ⟨so, fl, bi, tx, cn, ks⟩ := s
  have h := used_walk w so fl bi tx cn A ks.length c _ _ _ _ _ _ _ _ _ _ _ _ rfl rfl rfl rfl rfl rfl rfl rfl rfl (str_empty tx) rfl rfl
  refine h.mono fun e w' hh => ⟨hh.1.trans ?_, hh.2⟩
  congr 2
  have hi : ∀ a b : Int, (a == b) = decide (a = b) := fun a b => by rw [Bool.eq_iff_iff]; simp
  have h1 : decide ((bi : Int) = 0) = decide (bi = 0) := by simp
  have h2 : decide ((ks.length : Int) = 0) = decide (ks.length = 0) := by rw [Bool.eq_iff_iff]; simp
  simp only [usedF, hi, h1, h2, Bool.and_assoc]
end Go.Proofs.YtdmcioghdindfaaGreatDoor
