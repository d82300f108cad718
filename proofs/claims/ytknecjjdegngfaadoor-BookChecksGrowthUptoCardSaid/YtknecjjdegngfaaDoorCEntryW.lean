/-
  WALK: CheckEntry where it takes.
-/
import Derived.Test.YtknecjjdegngfaaDoorClimbW
import Derived.Test.YtknecjjdegngfaaDoorBookFoldsW
set_option linter.unusedSimpArgs false
namespace Go.Proofs.YtknecjjdegngfaaDoor
open Go Go.RowKit Go.Sha Go.Aff Go.Book
set_option maxRecDepth 100000 in
set_option maxHeartbeats 4000000 in
theorem centry_ok (w : World) (hG : Glob w) (root leaf : List Int) (hroot : IsDig root) (hleaf : IsDig leaf) (n i : Nat) (hn : n ≤ 9007199254740991) (hi : i < n) (A : Option Addr) (c : Nat) (ps : List (List Int)) (hr : RdD w A (wayF i n).length ps)
    (hres : climbF pairF id aheadF leaf (wayF i n) ps = root) :
    Calls Tryd.prog 26 #[.agg (vb root).toArray, .int .i64 n, .int .i64 i, .agg (vb leaf).toArray, .slice A (wayF i n).length c] w fun e w' => e = .returned .nilIface ∧ Keeps (fun _ => False) w w' := by
  have hwl := way_len i n (by omega)
  obtain ⟨LV, hLV⟩ : ∃ LV, LV = vb leaf := ⟨_, rfl⟩
  obtain ⟨RV, hRV⟩ : ∃ RV, RV = vb root := ⟨_, rfl⟩
  have HLI : Hid ((Tryd.prog.info? 24).map (·.size) = some LV.length) := Lib.hid (by rw [hLV, vb_length, hleaf.1]; kernel_rfl)
  have HRI : Hid ((Tryd.prog.info? 24).map (·.size) = some RV.length) := Lib.hid (by rw [hRV, vb_length, hroot.1]; kernel_rfl)
  have HEQ : Hid (∀ W, (Op.equalIn 10000 24 (.agg RV.toArray) (.agg RV.toArray)).run Tryd.prog W = .ok true W) := Lib.hid fun W => by rw [hRV]; exact eql_in (dig_self root hroot.1 W)
  obtain ⟨W2, hW2⟩ : ∃ W2, W2 = (w.alloc (.cells RV.toArray 24)).alloc (.cells LV.toArray 24) := ⟨_, rfl⟩
  have hk2 : Keeps (fun _ => False) w W2 := by rw [hW2]; exact ((Keeps.refl _ w).alloc _).alloc _
  have HB1 : Hid (Blk W2 w.heap.size 24 RV) := Lib.hid (by rw [hW2]; exact (Blk.new w _ _).alloc _)
  have HB2 : Hid (Blk W2 (w.heap.size + 1) 24 LV) := Lib.hid (by
    have h5 := Blk.new (w.alloc (.cells RV.toArray 24)) 24 LV
    rw [World.size_alloc] at h5
    rw [hW2]; exact h5)
  have HK2 := Lib.hid hk2
  have HWY := Lib.hid (way_any n i W2 (by omega) hi)
  obtain ⟨way, hway⟩ : ∃ way, way = wayF i n := ⟨_, rfl⟩
  rw [← hway] at hr hres HWY hwl ⊢
  obtain ⟨K, hK⟩ : ∃ K, K = way.length := ⟨_, rfl⟩
  rw [← hK] at hr HWY hwl ⊢
  have HCLG : Hid (∀ W Aw cw, Keeps (fun _ => False) w W → Rd W Aw K (vbool way) → Calls Tryd.prog 52 #[.agg LV.toArray, .slice Aw K cw, .slice A K c, .func (.func 13) #[] #[], .func (.func 50) #[] #[], .func (.func 51) #[] #[]] W fun e w' => e = .returned (.agg RV.toArray) ∧ Keeps (fun _ => False) W w') := Lib.hid fun W Aw cw hW hrw => by
    rw [hLV, hRV, ← hres]
    exact climbD W (hG.keep hW (fun _ h => h.elim)) leaf hleaf Aw K cw way hK.symm hrw A c ps (hr.keep hW (no_out _ _)) (by omega)
  rw [← hLV, ← hRV]
  rw [hW2] at HB1 HB2 HK2 HWY
  have n1 : ¬ (n : Int) < 1 := by omega
  have n2 : ¬ (9007199254740991 : Int) < (n : Int) := by omega
  have n3 : ¬ (i : Int) < 0 := by omega
  have n4 : ¬ (n : Int) ≤ (i : Int) := by omega
  clear hway hK hres hLV hRV hW2 hk2 hr hroot hleaf hG
  go_enter Tryd.func26, Tryd.ntmps26
  go_wp2_with (go_at_call 49; refine HWY.out.mono ?_; rintro e w3 ⟨Aw, cw, rfl, hmw⟩; have hk3 := HK2.out.trans hmw.2.1 (fun _ _ h => h); have HKW := Lib.hid hk3; have HB31 := Lib.hid (hmw.2.1.blk HB1.out (fun h => h)); have HB32 := Lib.hid (hmw.2.1.blk HB2.out (fun h => h)); have HCL : Hid (∀ W, Keeps (fun _ => False) w3 W → _) := Lib.hid (fun W hW => HCLG.out W Aw cw (hk3.trans hW (fun _ _ h => h)) ((Rd.of_own hmw.1).keep hW (no_out _ _))); clear hk3 hmw)
  have HRL : Hid (∀ W, Keeps (fun _ => False) w3 W → W.rangeAt (w.heap.size + 1) 0 LV) := Lib.hid fun W hW j v hv => by rw [Nat.zero_add, (hW.blk HB32.out (fun h => h)).cell, hv]
  have HRR : Hid (∀ W, Keeps (fun _ => False) w3 W → W.rangeAt w.heap.size 0 RV) := Lib.hid fun W hW j v hv => by rw [Nat.zero_add, (hW.blk HB31.out (fun h => h)).cell, hv]
  refine wp_region_held_drew (S := Keeps (fun _ => False) w3) (by kernel_rfl) (Keeps.refl (fun _ => False) _).drew (fun hHeld => ?_)
  refine wpAnyH_take (i := 0) (oi := ⟨some 42, _, _, _, _, _⟩) (v := _) rfl (by kernel_rfl) (by kernel_rfl) (by kernel_rfl) (fun _ _ _ h => h) (yieldsIf_load_mid (by rfl) _ _ rfl _ _ rfl LV _ (fun w' h => HRL.out _ h) Tryd.underlying24 rfl HLI.out) hHeld ?_
  try simp only [Act.put, List.setIfInBounds_toArray, List.set_cons_zero, List.set_cons_succ]
  refine wpAnyH_take (i := 1) (oi := ⟨some 43, _, _, _, _, _⟩) (v := ?_) rfl (by kernel_rfl) (by kernel_rfl) (by kernel_rfl) (fun _ _ _ h => h) (Or.inl ⟨by rfl, ?_⟩) hHeld ?_
  rotate_left
  · intro w' hSw
    go_simp
    first | done | rfl
  try simp only [Act.put, List.setIfInBounds_toArray, List.set_cons_zero, List.set_cons_succ]
  refine wpAnyH_take (i := 2) (oi := ⟨some 44, _, _, _, _, _⟩) (v := ?_) rfl (by kernel_rfl) (by kernel_rfl) (by kernel_rfl) (fun _ _ _ h => h) (Or.inl ⟨by rfl, ?_⟩) hHeld ?_
  rotate_left
  · intro w' hSw
    go_simp
    first | done | rfl
  try simp only [Act.put, List.setIfInBounds_toArray, List.set_cons_zero, List.set_cons_succ]
  refine wpAnyH_take (i := 3) (oi := ⟨some 45, _, _, _, _, _⟩) (v := ?_) rfl (by kernel_rfl) (by kernel_rfl) (by kernel_rfl) (fun _ _ _ h => h) (Or.inl ⟨by rfl, ?_⟩) hHeld ?_
  rotate_left
  · intro w' hSw
    go_simp
    first | done | rfl
  try simp only [Act.put, List.setIfInBounds_toArray, List.set_cons_zero, List.set_cons_succ]
  refine wpAnyH_take (i := 4) (oi := ⟨some 46, _, _, _, _, _⟩) (v := ?_) rfl (by kernel_rfl) (by kernel_rfl) (by kernel_rfl) (fun _ _ _ h => h) (Or.inl ⟨by rfl, ?_⟩) hHeld ?_
  rotate_left
  · intro w' hSw
    go_simp
    first | done | rfl
  try simp only [Act.put, List.setIfInBounds_toArray, List.set_cons_zero, List.set_cons_succ]
  refine wpAnyH_take (i := 6) (oi := ⟨some 48, _, _, _, _, _⟩) (v := _) rfl (by kernel_rfl) (by kernel_rfl) (by kernel_rfl) (fun _ _ _ h => h) (yieldsIf_load_mid (by rfl) _ _ rfl _ _ rfl RV _ (fun w' h => HRR.out _ h) Tryd.underlying24 rfl HRI.out) hHeld ?_
  try simp only [Act.put, List.setIfInBounds_toArray, List.set_cons_zero, List.set_cons_succ]
  refine wpAnyH_ready (rs := [5]) (by kernel_rfl) (by simp) ?_
  refine AllReadyH.cons (o := ⟨some 47, _, _, _, _, _⟩) rfl (fun K hK => ?_) AllReadyH.nil
  go_simp
  refine (HCL.out _ hHeld).mono ?_
  rintro e v5 ⟨rfl, hk5⟩
  have hq5 := hHeld.trans hk5 (fun _ _ h => h)
  refine hK.out _ _ hq5 (fun hHeld => ?_)
  clear hK K
  try simp only [Act.put, List.setIfInBounds_toArray, List.set_cons_zero, List.set_cons_succ]
  refine wpAnyH_take (i := 7) (oi := ⟨some 49, _, _, _, _, _⟩) (v := ?_) rfl (by kernel_rfl) (by kernel_rfl) (by kernel_rfl) (fun _ _ _ h => h) (Or.inl ⟨by rfl, ?_⟩) hHeld ?_
  rotate_left
  · intro w' hSw
    have cv := HEQ.out w'
    go_simp
    first | done | rfl
  try simp only [Act.put, List.setIfInBounds_toArray, List.set_cons_zero, List.set_cons_succ]
  refine wpAnyH_done (by kernel_rfl) ?_ _
  go_wp2
  go_ret
  exact ⟨rfl, HKW.out.trans hq5 (fun _ _ h => h)⟩
end Go.Proofs.YtknecjjdegngfaaDoor
