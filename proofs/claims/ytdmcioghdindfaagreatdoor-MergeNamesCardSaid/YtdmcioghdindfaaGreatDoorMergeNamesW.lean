/-
  WALK: the law MergeNames.
-/
import Derived.Test.YtdmcioghdindfaaGreatDoorNSameJ
import Derived.Test.YtdmcioghdindfaaGreatDoorNBuildW
set_option linter.unusedSimpArgs false
namespace Go.Proofs.YtdmcioghdindfaaGreatDoor
open Go Go.RowKit Go.Aff Go.Json Go.Shelf
theorem build_null : buildF [step0 1] = .inr .null := by
  have h : doF [] (step0 1) = .inr [JV.null] := do_scalar [] (step0 1) JV.null (by decide) (by decide) (by simp [mkV, step0]) trivial (by simp [JV.within, JV.nodes, JV.bytes, JV.deep])
  unfold buildF
  rw [if_neg (by decide), rowF_cons, h]
  rfl
theorem null_used : usedF (step0 1) = true := by decide
/-- One null, built. -/
theorem build_one (w : World) : Calls Tryz.prog 17 #[.slice (some ⟨w.heap.size, 0, none⟩) 1 1] (w.alloc (.cells (stepV (step0 1) none 0).toArray 53)) fun e w' =>
    ∃ q v, e = .returned (.tuple #[.pointer (some ⟨q, 0, none⟩), .nilIface]) ∧ TreeAt (fun i => w.heap.size ≤ i) w' q v .null ∧ Keeps (fun _ => False) w w' := by
  have hb := Blk.new w 53 (stepV (step0 1) none 0)
  have h := Build_spec (w.alloc (.cells (stepV (step0 1) none 0).toArray 53)) (some ⟨w.heap.size, 0, none⟩) 1 1 [step0 1] rfl (fun k s hs => by
    match k, hs with
    | 0, hs =>
      injection hs with hs
      subst hs
      refine ⟨w.heap.size, 0, none, 0, rfl, fun j v hj => ?_, Rd.nil _ _⟩
      rw [show 0 + 0 * 6 + j = j by omega, hb.cell, hj]
    | k + 1, hs => cases hs) (fun s hs => by
    rw [List.mem_singleton.1 hs]
    exact do_null_spec _ null_used rfl)
  refine h.mono fun e w' hh => ?_
  unfold BuildPost at hh
  rw [build_null] at hh
  obtain ⟨hk, q, v, he, ht, _⟩ := hh
  have hk2 : Keeps (fun _ => False) w w' := ((Keeps.refl _ w).alloc _).trans hk (fun _ _ h => h)
  exact ⟨q, v, he, ht.mono (fun i hi _ => by rw [World.size_alloc] at hi; omega), hk2⟩
set_option maxHeartbeats 4000000 in
set_option maxRecDepth 100000 in
theorem mergeNames_any (w : World) : Calls Tryz.prog 5 #[] w fun e w' => e = .returned (.bool true) ∧ Keeps (fun _ => False) w w' := by
  have HB := Lib.hid (build_one w)
  have tk : True := trivial
  have tk2 : True := trivial
  go_enter Tryz.func5, Tryz.ntmps5
  go_upto_region 4 with (first
    | (go_at_call 17; refine HB.out.mono ?_; rintro e w1 ⟨q, v, rfl, ht, hk⟩; have HT := Lib.hid ht; have HK0 := Lib.hid hk; have HKC := Lib.hid (Keeps.refl (fun _ => False) w1); clear ht hk))
  obtain ⟨sb, hsb, hsc⟩ := tsame_any (Slim.mk .null (by decide) (by decide) (fun x hx => by cases hx)) HT.out HT.out
  obtain rfl : sb = true := hsb.2 rfl
  have HS := Lib.hid hsc
  clear hsb hsc
  go_upto_region 14 with (first
      | (go_at_call 18; refine (merge_nil _ _ _ (by rfl)).mono ?_; rintro e w3 ⟨rfl, hk3⟩; replace HKC := Lib.hid (HKC.out.trans hk3 (fun _ _ h => h)); clear hk3)
      | (go_at_call 19; have _t := tk; clear tk; refine (over_nil _ none none 0 0 [] (Rd.nil _ _) (by decide) (by rfl)).mono ?_; rintro e w3 ⟨rfl, hk3⟩; replace HKC := Lib.hid (HKC.out.trans hk3 (fun _ _ h => h)); clear hk3)
      | (go_at_call 19; have _t := tk2; clear tk2; refine (over_nil (w3.alloc (.cells #[.pointer (some ⟨q, 0, none⟩), .pointer none] 26)) (some ⟨q, 0, none⟩) (some ⟨w3.heap.size, 0, none⟩) 2 2 [some ⟨q, 0, none⟩, none] (Rd.of_blk (Blk.new w3 26 [.pointer (some ⟨q, 0, none⟩), .pointer none]) rfl) (by decide) (by rfl)).mono ?_; rintro e w3 ⟨rfl, hk3⟩; replace HKC := Lib.hid ((HKC.out.alloc _).trans hk3 (fun _ _ h => h)); clear hk3)
      | (go_at_call 19; refine (over_self _ _).mono ?_; rintro e w3 ⟨rfl, hk3⟩; replace HKC := Lib.hid (HKC.out.trans hk3 (fun _ _ h => h)); clear hk3)
      | (go_at_call 20; refine (between_nil _ _ _ (by rfl)).mono ?_; rintro e w3 ⟨rfl, hk3⟩; replace HKC := Lib.hid (HKC.out.trans hk3 (fun _ _ h => h)); clear hk3)
      | (go_at_call 9; refine (three_nil _ _ _ _ (by rfl)).mono ?_; rintro e w3 ⟨rfl, hk3⟩; replace HKC := Lib.hid (HKC.out.trans hk3 (fun _ _ h => h)); clear hk3)
      | (go_at_call 21; refine (clean_nil _).mono ?_; rintro e w3 ⟨rfl, hk3⟩; replace HKC := Lib.hid (HKC.out.trans hk3 (fun _ _ h => h)); clear hk3))
  go_wp2_with (first
      | (go_at_call 12; refine (errno_any _ 1 1).mono ?_; rintro e w3 ⟨rfl, rfl⟩)
      | (go_at_call 15; refine (HS.out _ HKC.out).mono ?_; rintro e w3 ⟨rfl, hk3⟩; replace HKC := Lib.hid (HKC.out.trans hk3 (fun _ _ h => h)); clear hk3))
  go_ret
  exact ⟨rfl, HK0.out.trans HKC.out (fun _ _ h => h)⟩
end Go.Proofs.YtdmcioghdindfaaGreatDoor
