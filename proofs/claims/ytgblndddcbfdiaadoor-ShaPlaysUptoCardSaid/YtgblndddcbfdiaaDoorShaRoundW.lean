/-
  WALKS: the statement ShaRound.
-/
import Derived.Test.YtgblndddcbfdiaaDoorRefAW
import Derived.Test.YtgblndddcbfdiaaDoorOrderW
namespace Go.Proofs.YtgblndddcbfdiaaDoor
open Go Go.RowKit Go.Sha Go.Aff

theorem wl_vi (S : Nat → Int) : wl S = vi .u32 ((List.range 8).map S) := by simp [wl, vi]
theorem bl_vi (S : Nat → Int) : bl S = vi .u8 ((List.range 64).map S) := by simp [bl, vi]
theorem range_map_getD (xs : List Int) (n : Nat) (h : xs.length = n) : (List.range n).map (fun i => xs.getD i 0) = xs := by
  apply List.ext_getElem?
  intro i
  by_cases hi : i < n
  · simp [hi, h]
  · simp [hi, h]
theorem vi_wl (xs : List Int) (h : xs.length = 8) : vi .u32 xs = wl (fun i => xs.getD i 0) := by rw [wl_vi, range_map_getD xs 8 h]
theorem vi_bl (xs : List Int) (h : xs.length = 64) : vi .u8 xs = bl (fun i => xs.getD i 0) := by rw [bl_vi, range_map_getD xs 64 h]
theorem range_blk {w : World} {g : Nat} {t : TypeId} {xs : List Value} (hb : Blk w g t xs) : w.rangeAt g 0 xs := fun j v hv => by rw [Nat.zero_add, hb.cell, hv]
theorem wl_eql (w : World) (S T : Nat → Int) : (binOp .eql 38 (.agg (wl S).toArray) (.agg (wl T).toArray)).run Tryd.prog w = .ok (.bool (decide ((List.range 8).map S = (List.range 8).map T))) w := by
  rw [wl_vi, wl_vi]
  exact run_eql_row w Tryd.underlying38 Tryd.underlying37 (by kernel_rfl) _ _ (by simp) (by simp)

set_option maxHeartbeats 4000000 in
set_option maxRecDepth 100000 in
theorem sround_any (w : World) (hG : Glob w) (S B : Nat → Int) (hB : ∀ i, 0 ≤ B i ∧ B i < 256) :
    Calls Tryd.prog 5 #[.agg (wl S).toArray, .agg (bl B).toArray] w fun e w' => e = .returned (.bool true) ∧ Keeps (fun _ => False) w w' := by
  obtain ⟨sl, hsl⟩ : ∃ sl, sl = wl S := ⟨_, rfl⟩
  obtain ⟨bb, hbb⟩ : ∃ bb, bb = bl B := ⟨_, rfl⟩
  obtain ⟨ro, hro⟩ : ∃ ro, ro = wl (round S B) := ⟨_, rfl⟩
  have hS : ∀ W, Keeps (fun _ => False) ((w.alloc (.cells sl.toArray 38)).alloc (.cells bb.toArray 39)) W → W.rangeAt w.heap.size 0 sl ∧ W.rangeAt (w.heap.size + 1) 0 bb := by
    intro W hk
    have b1 := (Blk.new w 38 sl).alloc (.cells bb.toArray 39)
    have b2 := Blk.new (w.alloc (.cells sl.toArray 38)) 39 bb
    rw [World.size_alloc] at b2
    exact ⟨range_blk (hk.blk b1 (fun h => h)), range_blk (hk.blk b2 (fun h => h))⟩
  have hC1 : ∀ W, Glob W → Calls Tryd.prog 18 #[.agg sl.toArray, .agg bb.toArray] W fun e w' => e = .returned (.agg ro.toArray) ∧ Keeps (fun _ => False) W w' := fun W hg => by
    rw [hsl, hbb, hro]
    refine (round_any S B hB W hg.1 ?_).mono fun e w' ⟨he, hb⟩ => ⟨he, Keeps.of_below hb⟩
    have h2 : 2 ≤ W.heap.size := hg.lt
    show 0 < W.heap.size
    omega
  have hC2 : ∀ W, Calls Tryd.prog 19 #[.agg sl.toArray, .agg bb.toArray] W fun e w' => e = .returned (.agg ro.toArray) ∧ Keeps (fun _ => False) W w' := fun W => by
    rw [hsl, hbb, hro]
    exact refRound_any S B hB W
  have heq : ∀ W, (binOp .eql 38 (.agg ro.toArray) (.agg ro.toArray)).run Tryd.prog W = .ok (.bool true) W := fun W => by rw [hro, wl_eql]; simp
  rw [← hsl, ← hbb]
  have u8 := Tryd.underlying38
  have u64 := Tryd.underlying39
  have ix : (Tryd.prog.info? 38).map (·.size) = some sl.length := by rw [hsl, show (wl S).length = 8 by simp [wl]]; kernel_rfl
  have iy : (Tryd.prog.info? 39).map (·.size) = some bb.length := by rw [hbb, show (bl B).length = 64 by simp [bl]]; kernel_rfl
  have HS := Lib.hid hS
  have C1 := Lib.hid hC1
  have C2 := Lib.hid hC2
  have HG := Lib.hid hG
  clear hS hC1 hC2 hG hsl hbb hro hB
  go_enter Tryd.func5, Tryd.ntmps5
  go_wp2
  refine wp_region_held_drew (S := (fun w' => Keeps (fun _ => False) ((w.alloc (.cells sl.toArray 38)).alloc (.cells bb.toArray 39)) w' ∧ w'.rangeAt w.heap.size 0 sl ∧ w'.rangeAt (w.heap.size + 1) 0 bb)) (by kernel_rfl) ⟨(Keeps.refl _ _).drew, HS.out _ ((Keeps.refl _ _).drew)⟩ (fun hHeld => ?_)
  refine wpAnyH_take (i := 0) (oi := _) (v := _) rfl (by kernel_rfl) (by kernel_rfl) (by kernel_rfl) (fun _ _ _ h => h) (yieldsIf_load_mid (by rfl) _ _ rfl _ _ rfl sl _ (fun w' h => h.2.1) u8 rfl ix) hHeld ?_
  try simp only [Act.put]
  refine wpAnyH_take (i := 1) (oi := _) (v := _) rfl (by kernel_rfl) (by kernel_rfl) (by kernel_rfl) (fun _ _ _ h => h) (yieldsIf_load_mid (by rfl) _ _ rfl _ _ rfl bb _ (fun w' h => h.2.2) u64 rfl iy) hHeld ?_
  try simp only [Act.put]
  refine wpAnyH_take (i := 3) (oi := _) (v := _) rfl (by kernel_rfl) (by kernel_rfl) (by kernel_rfl) (fun _ _ _ h => h) (yieldsIf_load_mid (by rfl) _ _ rfl _ _ rfl sl _ (fun w' h => h.2.1) u8 rfl ix) hHeld ?_
  try simp only [Act.put]
  refine wpAnyH_take (i := 4) (oi := _) (v := _) rfl (by kernel_rfl) (by kernel_rfl) (by kernel_rfl) (fun _ _ _ h => h) (yieldsIf_load_mid (by rfl) _ _ rfl _ _ rfl bb _ (fun w' h => h.2.2) u64 rfl iy) hHeld ?_
  try simp only [Act.put, List.setIfInBounds_toArray]
  refine wpAnyH_ready (rs := [2]) (by kernel_rfl) (by simp) ?_
  refine AllReadyH.cons (o := _) rfl (fun K hK => ?_) AllReadyH.nil
  go_simp
  refine (C1.out _ (HG.out.keep (((Keeps.refl (fun _ => False) w).alloc _).alloc _ |>.trans hHeld.1 (fun _ _ h => h)) (fun _ h => h.elim))).mono ?_
  rintro e w2 ⟨rfl, hk2⟩
  have hq2 := hHeld.1.trans hk2 (fun _ _ h => h)
  show K _ w2
  refine hK.out _ _ ⟨hq2, HS.out _ hq2⟩ (fun hHeld => ?_)
  clear hK K
  try simp only [Act.put, List.setIfInBounds_toArray]
  refine wpAnyH_ready (rs := [5]) (by kernel_rfl) (by simp) ?_
  refine AllReadyH.cons (o := _) rfl (fun K hK => ?_) AllReadyH.nil
  go_simp
  refine (C2.out _).mono ?_
  rintro e w5 ⟨rfl, hk5⟩
  have hq5 := hHeld.1.trans hk5 (fun _ _ h => h)
  show K _ w5
  refine hK.out _ _ ⟨hq5, HS.out _ hq5⟩ (fun hHeld => ?_)
  clear hK K
  try simp only [Act.put, List.setIfInBounds_toArray]
  refine wpAnyH_ready (rs := [6]) (by kernel_rfl) (by simp) ?_
  refine AllReadyH.cons (o := _) rfl (fun K hK => ?_) AllReadyH.nil
  go_simp
  refine hK.out _ _ hHeld (fun hHeld => ?_)
  clear hK K
  try simp only [Act.put, List.setIfInBounds_toArray]
  refine wpAnyH_ready (rs := [7]) (by kernel_rfl) (by simp) ?_
  refine AllReadyH.cons (o := _) rfl (fun K hK => ?_) AllReadyH.nil
  go_simp
  refine hK.out _ _ hHeld (fun hHeld => ?_)
  clear hK K
  try simp only [Act.put, List.setIfInBounds_toArray]
  refine wpAnyH_ready (rs := [8]) (by kernel_rfl) (by simp) ?_
  refine AllReadyH.cons (o := _) rfl (fun K hK => ?_) AllReadyH.nil
  go_simp
  refine (works_any _ (HG.out.keep (((Keeps.refl (fun _ => False) w).alloc _).alloc _ |>.trans hHeld.1 (fun _ _ h => h)) (fun _ h => h.elim))).mono ?_
  rintro e w8 ⟨rfl, hk8⟩
  have hq8 := hHeld.1.trans hk8 (fun _ _ h => h)
  show K _ w8
  refine hK.out _ _ ⟨hq8, HS.out _ hq8⟩ (fun hHeld => ?_)
  clear hK K
  try simp only [Act.put, List.setIfInBounds_toArray]
  refine wpAnyH_ready (rs := [9]) (by kernel_rfl) (by simp) ?_
  refine AllReadyH.cons (o := _) rfl (fun K hK => ?_) AllReadyH.nil
  go_simp
  refine hK.out _ _ hHeld (fun hHeld => ?_)
  clear hK K
  try simp only [Act.put, List.setIfInBounds_toArray]
  refine wpAnyH_ready (rs := [10]) (by kernel_rfl) (by simp) ?_
  refine AllReadyH.cons (o := _) rfl (fun K hK => ?_) AllReadyH.nil
  go_simp
  refine hK.out _ _ hHeld (fun hHeld => ?_)
  clear hK K
  try simp only [Act.put, List.setIfInBounds_toArray]
  refine wpAnyH_done (by kernel_rfl) ?_ _
  have HK : Hid (Keeps (fun _ => False) w w8) := (((Keeps.refl _ w).alloc _).alloc _).trans hHeld.1 (fun _ _ h => h)
  go_wp2
  go_ret
  exact ⟨rfl, HK.out⟩
theorem sround_vi (w : World) (hG : Glob w) (xs ys : List Int) (lx : xs.length = 8) (ly : ys.length = 64) (hy : IsBytes ys) :
    Calls Tryd.prog 5 #[.agg (vi .u32 xs).toArray, .agg (vi .u8 ys).toArray] w fun e w' => e = .returned (.bool true) ∧ Keeps (fun _ => False) w w' := by
  rw [vi_wl xs lx, vi_bl ys ly]
  refine sround_any w hG _ _ (fun i => ?_)
  rw [List.getD_eq_getElem?_getD]
  cases hk : ys[i]? with
  | none => simp
  | some x => exact hy x (List.mem_of_getElem? hk)
end Go.Proofs.YtgblndddcbfdiaaDoor
