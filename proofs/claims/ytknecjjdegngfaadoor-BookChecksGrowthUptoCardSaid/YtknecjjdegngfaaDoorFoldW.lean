/-
  WALKS for BookFolds: plain, same, Fold, the reference's Fold.
-/
import Derived.Test.YtknecjjdegngfaaDoorOnesW
import Derived.Test.YtknecjjdegngfaaDoorBookNamesW
import Derived.Test.YtknecjjdegngfaaDoorBookHashesW
import Derived.Test.YtknecjjdegngfaaDoorDigsK
set_option linter.unusedSimpArgs false
namespace Go.Proofs.YtknecjjdegngfaaDoor
open Go Go.RowKit Go.Sha Go.Aff Go.Book
set_option maxRecDepth 100000
set_option maxHeartbeats 4000000
theorem infoD : (Tryd.prog.info? 24).map (fun i => (i.zero, i.size, i.bytes)) = some (some (Value.agg (vb (List.replicate 32 0)).toArray), 32, 32) := by kernel_rfl
theorem infoA : (Tryd.prog.info? 23).map (fun i => (i.zero, i.size, i.bytes)) = some (some (Value.agg (vb (List.replicate 32 0)).toArray), 32, 32) := by kernel_rfl
/-- plain -/
theorem plain_any (w : World) (A : Option Addr) (n c : Nat) (ds : List (List Int)) (hr : RdD w A n ds) (hn : n ≤ 2000) :
    Calls Tryd.prog 21 #[.slice A n c] w fun e w' => ∃ A' c', e = .returned (.slice A' n c') ∧ MineD w w' 23 A' n c' ds := by
  have HR := Lib.hid hr
  clear hr
  go_enter Tryd.func21, Tryd.ntmps21
  go_wp2
  go_loopw [3, 4] (fun v i wr => ∃ (k : Nat) (A4 : Option Addr) (c4 : Nat), k ≤ n ∧ i = .int .i64 k ∧ v = .slice A4 k c4 ∧ Hid (MineD w wr 23 A4 k c4 (ds.take k))) (fun _ i _ => n - (intOf i).toNat)
  case atStart => exact ⟨0, none, 0, by omega, rfl, rfl, Lib.hid (by rw [List.take_zero]; exact MineD.nil w _)⟩
  case round =>
    obtain ⟨k, A4, c4, hk, rfl, rfl, HM⟩ := hrel
    by_cases hlt : k < n
    · obtain ⟨g, o, d, rfl, hd, hl⟩ := (HR.out.keep HM.out.2.2.2.1 (no_out _ _)).lies hlt
      have HDL : Hid (d.length = 32) := Lib.hid (HR.out.2.1.at_ hd).1
      have HIN : Hid ((Tryd.prog.info? 24).map (·.size) = some (vb d).length) := Lib.hid (by rw [vb_length, HDL.out]; kernel_rfl)
      have HL := Lib.hid hl
      have HD := Lib.hid hd
      have HB : Hid (∀ cs : Array Value, cs.size = 32 → List.foldl (fun (cs : Array Value) (x : Value × Nat) => cs.setIfInBounds x.snd x.fst) cs (vb d).zipIdx = (vb d).toArray) := Lib.hid fun cs h => fold_zip0 (vb d) cs (by rw [vb_length, HDL.out]; exact h)
      have HRD : Hid (RdD (wr.alloc (.cells (vb d).toArray 23)) (some ⟨wr.heap.size, 0, none⟩) 1 [d]) := Lib.hid ⟨rfl, (HR.out.2.1.at_ hd).one, by rw [dg_one]; exact Rd.of_blk (Blk.new wr _ _) (by rw [vb_length, HDL.out])⟩
      have hvl : (vb d).length = 32 := by rw [vb_length, HDL.out]
      clear hl hd
      go_wp2_with (first
        | ((with_reducible show wpList _ _ _ (⟨_, Op.load 24 _, _, _, _, _⟩ :: _) _ _); refine wpList_load_lies rfl 24 _ rfl _ _ _ rfl HL.out Tryd.underlying24 rfl HIN.out ?_)
        | ((with_reducible show wpList _ _ _ (⟨_, Op.call ⟨Callee.builtin Builtin.append, _, _⟩, _, _, _, _⟩ :: _) _ _); rw [HB.out _ rfl]; refine wpList_append_dig w _ rfl _ _ 42 rfl 23 _ Tryd.underlying42 infoA rfl A4 k c4 _ rfl ((HM.out.keep ((Keeps.refl _ _).alloc _))) (some ⟨wr.heap.size, 0, none⟩) 1 1 [d] rfl HRD.out (by omega) ?_; intro A5 c5 w5 hm5 _ _; have HM5 := Lib.hid hm5; clear hm5))
      go_round
      case rel => exact ⟨k + 1, A5, c5, by omega, by go_num, rfl, Lib.hid (by rw [List.take_add_one, HD.out]; exact HM5.out)⟩
      case measure => simp [intOf]; omega
    · obtain rfl : k = n := by omega
      go_wp2
      go_ret
      exact ⟨_, _, rfl, by have := HM.out; rwa [List.take_of_length_le (by rw [HR.out.1]; exact Nat.le_refl _)] at this⟩
theorem neq_eql {P : Program} {w : World} {t : TypeId} {xs ys : Array Value} {b : Bool} (h : (binOp .eql t (.agg xs) (.agg ys)).run P w = .ok (.bool b) w) : (binOp .neq t (.agg xs) (.agg ys)).run P w = .ok (.bool (!b)) w := by
  rw [run_eql_struct] at h
  rw [run_neq_struct]
  cases hr : (Op.equalIn 10000 t (.agg xs) (.agg ys)).run P w with
  | halt a b' => rw [hr] at h; cases h
  | ok b' w' =>
    rw [hr] at h
    simp only [Result.andThen_ok] at h ⊢
    injection h with h1 h2
    injection h1 with h1
    rw [h1, h2]
theorem neq_self (D : List Int) (hD : D.length = 32) (W : World) : (binOp .neq 24 (.agg (vb D).toArray) (.agg (vb D).toArray)).run Tryd.prog W = .ok (.bool false) W := neq_eql (dig_self D hD W)
set_option maxRecDepth 100000 in
set_option maxHeartbeats 4000000 in
/-- same: the same digests. -/
theorem same_any (w : World) (A B : Option Addr) (n c c' : Nat) (ds : List (List Int)) (hr : RdD w A n ds) (hr' : RdD w B n ds) (hn : n ≤ 4398046511103) :
    Calls Tryd.prog 20 #[.slice A n c, .slice B n c'] w fun e w' => e = .returned (.bool true) ∧ Keeps (fun _ => False) w w' := by
  have HR := Lib.hid hr
  have HR' := Lib.hid hr'
  clear hr hr'
  go_enter Tryd.func20, Tryd.ntmps20
  go_wp2
  go_loopw [5] (fun i wr => ∃ k : Nat, k ≤ n ∧ i = .int .i64 k ∧ Hid (Keeps (fun _ => False) w wr)) (fun i _ => n - (intOf i).toNat)
  case atStart => exact ⟨0, by omega, rfl, Lib.hid (Keeps.refl _ _)⟩
  case round =>
    obtain ⟨k, hk, rfl, HK⟩ := hrel
    by_cases hlt : k < n
    · obtain ⟨g, o, d, rfl, hd, hl⟩ := (HR.out.keep HK.out (no_out _ _)).lies hlt
      obtain ⟨g', o', d', rfl, hd', hl'⟩ := (HR'.out.keep HK.out (no_out _ _)).lies hlt
      obtain rfl : d = d' := by rw [hd] at hd'; injection hd'
      have HDL : Hid (d.length = 32) := Lib.hid (HR.out.2.1.at_ hd).1
      have HI1 : Hid ((Tryd.prog.info? 24).map (·.size) = some (vb d).length) := Lib.hid (by rw [vb_length, HDL.out]; kernel_rfl)
      have HI2 : Hid ((Tryd.prog.info? 23).map (·.size) = some (vb d).length) := Lib.hid (by rw [vb_length, HDL.out]; kernel_rfl)
      have HL := Lib.hid hl
      have HL' := Lib.hid hl'
      have hne := neq_self d HDL.out
      clear hl hl' hd hd'
      go_wp2
      refine wp_region_quiet_lit (by kernel_rfl) (by kernel_rfl) ?_
      repeat (first
        | (refine wpQuiet_load_lies rfl 24 _ rfl _ _ _ rfl HL.out Tryd.underlying24 rfl HI1.out ?_; simp only [Act.put, List.setIfInBounds_toArray, List.set_cons_succ, List.set_cons_zero])
        | (refine wpQuiet_load_lies rfl 23 _ rfl _ _ _ rfl HL'.out Tryd.underlying23 rfl HI2.out ?_; simp only [Act.put, List.setIfInBounds_toArray, List.set_cons_succ, List.set_cons_zero])
        | go_big_quiet_step (fail))
      refine wpQuiet_nil ?_
      intro _ hw'
      obtain ⟨nq, rfl⟩ := hw'
      have HK5 := Lib.hid (HK.out.drewN nq)
      go_wp2
      go_round
      case rel => exact ⟨k + 1, by omega, by go_num, HK5⟩
      case measure => simp [intOf]; omega
    · obtain rfl : k = n := by omega
      go_wp2
      go_ret
      exact ⟨rfl, HK.out⟩
end Go.Proofs.YtknecjjdegngfaaDoor
