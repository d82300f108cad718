/-
  WALKS: errno; none (is a tree not there); Root; Merge, Over, Between, Three, Clean of trees that are not there.
-/
import Derived.Test.YtdmcioghdindfaaGreatDoorNAssertW
import Derived.Deep.LoopGhost
import Derived.Deep.CutRange
import Derived.Deep.CutBlock
import Derived.Deep.OwnRows
import Derived.Deep.RegionHeld3
import Derived.Stop.Asserts
import Derived.Laws.Pointers
set_option linter.unusedSimpArgs false
namespace Go.Proofs.YtdmcioghdindfaaGreatDoor
open Go Go.RowKit Go.Aff Go.Json

set_option maxRecDepth 100000 in
theorem errno_any (w : World) (n k : Int) : Calls Tryz.prog 12 #[errE n, .int .i64 k] w fun e w' => e = .returned (.bool (n == k)) ∧ w' = w := by
  unfold errE
  have hf := as_errno_errno
  go_enter Tryz.func12, Tryz.ntmps12
  go_wp2
  go_ret
  exact ⟨rfl, rfl⟩
/-- Whether one of some trees is not there. -/
def noneF (ps : List (Option Addr)) : Value := if ps.any (·.isNone) then errE 1 else .nilIface
set_option maxHeartbeats 4000000 in
set_option maxRecDepth 100000 in
theorem none_any (w : World) (A : Option Addr) (n c : Nat) (ps : List (Option Addr)) (hr : Rd w A n (ps.map .pointer)) (hn : n ≤ 1000000) :
    Calls Tryz.prog 27 #[.slice A n c] w fun e w' => e = .returned (noneF ps) ∧ w' = w := by
  have HL : Hid (ps.length = n) := Lib.hid (by simpa using hr.1)
  have HR : Hid (∀ j, j < n → ∃ g o p, A = some ⟨g, o, none⟩ ∧ ps[j]? = some p ∧ w.cell? ⟨g, o + j, none⟩ = some (.pointer p)) := Lib.hid fun j hj => by
    obtain ⟨g, o, e, hc⟩ := hr.2 (by omega)
    obtain ⟨p, hp⟩ : ∃ p, ps[j]? = some p := ⟨_, List.getElem?_eq_getElem (by have := HL.out; omega)⟩
    refine ⟨g, o, p, e, hp, ?_⟩
    rw [hc j hj, List.getElem?_map, hp]
    rfl
  clear hr
  go_enter Tryz.func27, Tryz.ntmps27
  go_upto_block 0 with fail
  go_wp2
  go_loopg [7] n (fun g2 i w3 => ∃ j, j ≤ n ∧ i = .int .i64 j ∧ g2 = n - j ∧ Hid (w3 = w ∧ (ps.take j).any (·.isNone) = false))
  case atStart => exact ⟨0, by omega, rfl, rfl, Lib.hid ⟨rfl, by simp⟩⟩
  case round =>
    obtain ⟨j, hj, rfl, hg2, HA⟩ := hrel
    have HG2 := Lib.hid hg2
    clear hg2
    obtain ⟨rfl, _⟩ := HA.out
    by_cases hlt : j < n
    · obtain ⟨g, o, p, hA, hp, hcl⟩ := HR.out j hlt
      subst hA
      have HP := Lib.hid hp
      clear hp
      cases p with
      | none =>
        have HN : Hid (noneF ps = errE 1) := Lib.hid (by
          unfold noneF
          rw [if_pos]
          rw [List.any_eq_true]
          exact ⟨none, List.mem_of_getElem? HP.out, rfl⟩)
        go_wp2
        go_ret
        rw [HN.out]
        exact ⟨rfl, rfl⟩
      | some p =>
        have HT : Hid ((ps.take (j + 1)).any (·.isNone) = false) := Lib.hid (by
          rw [List.take_add_one, HP.out, List.any_append, HA.out.2]
          rfl)
        go_wp2
        go_roundg (n - (j + 1))
        case measure => rw [HG2.out]; omega
        case rel => exact ⟨j + 1, by omega, by go_num, rfl, Lib.hid ⟨rfl, HT.out⟩⟩
    · obtain rfl : j = n := by omega
      have HN : Hid (noneF ps = .nilIface) := Lib.hid (by
        unfold noneF
        have h := HA.out.2
        rw [List.take_of_length_le (by rw [HL.out]; exact Nat.le_refl _)] at h
        rw [h]
        rfl)
      go_wp2
      go_ret
      rw [HN.out]
      exact ⟨rfl, rfl⟩
theorem none_row (w : World) (ps : List (Option Addr)) (hn : ps.length ≤ 1000000) :
    Calls Tryz.prog 27 #[.slice (some ⟨w.heap.size, 0, none⟩) ps.length ps.length] (w.alloc (.cells (ps.map Value.pointer).toArray 26)) fun e w' => e = .returned (noneF ps) ∧ w' = w.alloc (.cells (ps.map Value.pointer).toArray 26) :=
  none_any _ _ _ _ ps (Rd.of_blk (Blk.new w 26 (ps.map Value.pointer)) (by simp)) hn
set_option maxRecDepth 100000 in
theorem root_any (w : World) (q : Nat) (T : TypeId) (x : Value) (hb : Blk w q 110 [.iface T x]) :
    Calls Tryz.prog 38 #[.pointer (some ⟨q, 0, none⟩)] w fun e w' => e = .returned (.agg #[.iface T x]) ∧ Keeps (fun _ => False) w w' := by
  have hb1 := hb.alloc (.cells #[.nilIface] 81)
  have c0 := hb1.cell 0
  have f0 := (Blk.new w 81 [.nilIface]).frozen 0
  have HR := Lib.hid (Blk.new w 81 [.iface T x])
  have HK := Lib.hid ((Keeps.refl (fun _ => False) w).alloc (.cells #[.iface T x] 81))
  clear hb hb1
  go_enter Tryz.func38, Tryz.ntmps38
  go_wp2
  exact bodyPost_ret (results_blk rfl _ _ rfl HR.out Tryz.underlying81 rfl (by kernel_rfl)) rfl ⟨rfl, HK.out⟩
set_option maxRecDepth 100000 in
theorem merge_nil (w : World) (p q : Option Addr) (h : noneF [p, q] = errE 1) : Calls Tryz.prog 18 #[.pointer p, .pointer q] w fun e w' => e = .returned (.tuple #[.pointer none, errE 1]) ∧ Keeps (fun _ => False) w w' := by
  have hn := none_row w [p, q] (by simp)
  rw [h] at hn
  have HN := Lib.hid hn
  clear hn h
  unfold errE at HN ⊢
  go_enter Tryz.func18, Tryz.ntmps18
  go_wp2_with (go_at_call 27; refine HN.out.mono ?_; rintro e w2 ⟨rfl, rfl⟩)
  go_ret2
  exact ⟨rfl, (Keeps.refl _ w).alloc _⟩
set_option maxRecDepth 100000 in
theorem between_nil (w : World) (p q : Option Addr) (h : noneF [p, q] = errE 1) : Calls Tryz.prog 20 #[.pointer p, .pointer q] w fun e w' => e = .returned (.tuple #[.pointer none, errE 1]) ∧ Keeps (fun _ => False) w w' := by
  have hn := none_row w [p, q] (by simp)
  rw [h] at hn
  have HN := Lib.hid hn
  clear hn h
  unfold errE at HN ⊢
  go_enter Tryz.func20, Tryz.ntmps20
  go_wp2_with (go_at_call 27; refine HN.out.mono ?_; rintro e w2 ⟨rfl, rfl⟩)
  go_ret2
  exact ⟨rfl, (Keeps.refl _ w).alloc _⟩
set_option maxRecDepth 100000 in
theorem three_nil (w : World) (o p q : Option Addr) (h : noneF [o, p, q] = errE 1) : Calls Tryz.prog 9 #[.pointer o, .pointer p, .pointer q] w fun e w' => e = .returned (.tuple #[.pointer none, .slice none 0 0, errE 1]) ∧ Keeps (fun _ => False) w w' := by
  have hn := none_row w [o, p, q] (by simp)
  rw [h] at hn
  have HN := Lib.hid hn
  clear hn h
  unfold errE at HN ⊢
  go_enter Tryz.func9, Tryz.ntmps9
  go_wp2_with (go_at_call 27; refine HN.out.mono ?_; rintro e w2 ⟨rfl, rfl⟩)
  go_ret3
  exact ⟨rfl, (Keeps.refl _ w).alloc _⟩
set_option maxRecDepth 100000 in
theorem clean_nil (w : World) : Calls Tryz.prog 21 #[.pointer none] w fun e w' => e = .returned (.tuple #[.pointer none, errE 1]) ∧ Keeps (fun _ => False) w w' := by
  have hn := none_row w [none] (by simp)
  rw [show noneF [none] = errE 1 from rfl] at hn
  have HN := Lib.hid hn
  clear hn
  unfold errE at HN ⊢
  go_enter Tryz.func21, Tryz.ntmps21
  go_wp2_with (go_at_call 27; refine HN.out.mono ?_; rintro e w2 ⟨rfl, rfl⟩)
  go_ret2
  exact ⟨rfl, (Keeps.refl _ w).alloc _⟩
theorem infoT : (Tryz.prog.info? 26).map (fun i => (i.zero, i.size, i.bytes)) = some (some (.pointer none), 1, 8) := by kernel_rfl
theorem ptr_one (ps : List (Option Addr)) : ∀ u ∈ ps.map Value.pointer, u.oneCell' = true := fun u hu => by
  obtain ⟨t, _, rfl⟩ := List.mem_map.1 hu
  rfl
set_option maxHeartbeats 4000000 in
set_option maxRecDepth 100000 in
theorem over_nil (w : World) (p : Option Addr) (A : Option Addr) (n c : Nat) (ps : List (Option Addr)) (hr : Rd w A n (ps.map .pointer)) (hn : n ≤ 100000) (h : noneF (p :: ps) = errE 1) :
    Calls Tryz.prog 19 #[.pointer p, .slice A n c] w fun e w' => e = .returned (.tuple #[.pointer none, errE 1]) ∧ Keeps (fun _ => False) w w' := by
  have HR := Lib.hid (hr.alloc (.cells #[.pointer p] 26))
  have HM := Lib.hid (Mine.built w w 26 1 [.pointer p] (Keeps.refl _ w) rfl (by unfold maxLen; omega))
  have H1 := Lib.hid (ptr_one ps)
  have HNN : Hid (∀ A' c' w', Mine w w' 26 A' (1 + n) c' ([.pointer p] ++ ps.map .pointer) → Calls Tryz.prog 27 #[.slice A' (1 + n) c'] w' fun e w2 => e = .returned (errE 1) ∧ w2 = w') := Lib.hid fun A' c' w' hm => by
    have := none_any w' A' (1 + n) c' (p :: ps) hm.rd (by omega)
    rw [h] at this
    exact this
  clear hr h
  unfold errE at HNN ⊢
  go_enter Tryz.func19, Tryz.ntmps19
  go_wp2_with (first
    | (at_builtin; refine wpList_append_rd _ rfl (.tmp 12) (.tmp 13) 112 rfl 26 (.pointer none) 8 Tryz.underlying112 infoT rfl _ 1 [.pointer p] rfl HM.out.1 A n c (ps.map .pointer) rfl HR.out H1.out (by unfold maxLen; omega) (by omega) ?_; intro A' c' w' hown hg hb; have HM2 := Lib.hid (HM.out.app0 hown hg hb); clear hown hg hb)
    | (go_at_call 27; refine (HNN.out _ _ _ HM2.out).mono ?_; rintro e w2 ⟨rfl, rfl⟩))
  go_ret2
  exact ⟨rfl, HM2.out.2.1⟩
set_option maxHeartbeats 4000000 in
set_option maxRecDepth 100000 in
theorem over_self (w : World) (p : Addr) : Calls Tryz.prog 19 #[.pointer (some p), .slice none 0 0] w fun e w' => e = .returned (.tuple #[.pointer (some p), .nilIface]) ∧ Keeps (fun _ => False) w w' := by
  have HM := Lib.hid (Mine.built w w 26 1 [.pointer (some p)] (Keeps.refl _ w) rfl (by unfold maxLen; omega))
  have HNN : Hid (∀ A' c' w', Mine w w' 26 A' (1 + 0) c' ([.pointer (some p)] ++ []) → Calls Tryz.prog 27 #[.slice A' 1 c'] w' fun e w2 => e = .returned .nilIface ∧ w2 = w') := Lib.hid fun A' c' w' hm =>
    none_any w' A' (1 + 0) c' [some p] hm.rd (by omega)
  go_enter Tryz.func19, Tryz.ntmps19
  go_upto_block 0 with (first
    | (at_builtin; refine wpList_append_rd _ rfl (.tmp 12) (.tmp 13) 112 rfl 26 (.pointer none) 8 Tryz.underlying112 infoT rfl _ 1 [.pointer (some p)] rfl HM.out.1 none 0 0 [] rfl (Rd.nil _ _) (by simp) (by unfold maxLen; omega) (by omega) ?_; intro A' c' w' hown hg hb; have HM2 := Lib.hid (HM.out.app0 hown hg hb); clear hown hg hb)
    | (go_at_call 27; refine (HNN.out _ _ _ HM2.out).mono ?_; rintro e w2 ⟨rfl, rfl⟩))
  go_wp2
  go_loopg [0, 25] 0 (fun g2 t0 i w3 => t0 = .pointer (some p) ∧ i = .int .i64 0 ∧ g2 = 0 ∧ Hid (Keeps (fun _ => False) w w3))
  case atStart => exact ⟨rfl, rfl, rfl, Lib.hid HM2.out.2.1⟩
  case round =>
    obtain ⟨rfl, rfl, hg2, HA⟩ := hrel
    go_wp2
    go_ret2
    exact ⟨rfl, HA.out⟩
end Go.Proofs.YtdmcioghdindfaaGreatDoor
