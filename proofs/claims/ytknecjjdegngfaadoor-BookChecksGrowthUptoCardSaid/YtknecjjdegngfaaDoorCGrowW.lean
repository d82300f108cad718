/-
  WALKS: CheckGrowth where it takes.
-/
import Derived.Test.YtknecjjdegngfaaDoorTwoW
import Derived.Test.YtknecjjdegngfaaDoorTailK
set_option linter.unusedSimpArgs false
namespace Go.Proofs.YtknecjjdegngfaaDoor
open Go Go.RowKit Go.Sha Go.Aff Go.Book
theorem bytes_appB {a b : List Int} (ha : IsBytes a) (hb : IsBytes b) : IsBytes (a ++ b) := fun x hx => by
  rcases List.mem_append.1 hx with h | h
  · exact ha x h
  · exact hb x h
set_option maxRecDepth 100000 in
set_option maxHeartbeats 8000000 in
theorem cgrow_known (w : World) (hG : Glob w) (old root : List Int) (hold : IsDig old) (hroot : IsDig root) (m n : Nat) (hn : n ≤ 9007199254740991) (hm0 : 0 < m) (hmn : m ≤ n) (A : Option Addr) (c : Nat) (ps : List (List Int)) (hkn : (gwayF m n true).2 = true)
    (hr : RdD w A (gwayF m n true).1.length ps) (hres : climbF joinT2 ofT2 aheadT2 (old ++ old) (gwayF m n true).1 ps = old ++ root) :
    Calls Tryd.prog 30 #[.int .i64 m, .agg (vb old).toArray, .int .i64 n, .agg (vb root).toArray, .slice A (gwayF m n true).1.length c] w fun e w' => e = .returned .nilIface ∧ Keeps (fun _ => False) w w' := by
  have hwl := gway_short m n 53 true (by omega)
  obtain ⟨OV, hOV⟩ : ∃ V, V = vb old := ⟨_, rfl⟩
  obtain ⟨RV, hRV⟩ : ∃ V, V = vb root := ⟨_, rfl⟩
  obtain ⟨TV, hTV⟩ : ∃ V, V = vb (old ++ root) := ⟨_, rfl⟩
  have HOL : Hid (OV.length = 32) := Lib.hid (by rw [hOV, vb_length]; exact hold.1)
  have HRL : Hid (RV.length = 32) := Lib.hid (by rw [hRV, vb_length]; exact hroot.1)
  have HO1 : Hid (∀ u ∈ OV, u.oneCell' = true) := Lib.hid (by rw [hOV]; exact vb_one _)
  have HOI : Hid ((Tryd.prog.info? 24).map (·.size) = some OV.length) := Lib.hid (by rw [HOL.out]; kernel_rfl)
  have HRI : Hid ((Tryd.prog.info? 24).map (·.size) = some RV.length) := Lib.hid (by rw [HRL.out]; kernel_rfl)
  have ht1 : List.take 32 TV = vb old := by rw [hTV, vb_app, ← hold.1, ← vb_length old, List.take_left' rfl]
  have ht2 : List.take 32 (List.drop 32 TV) = vb root := by
    rw [hTV, vb_app, ← hold.1, ← vb_length old, List.drop_left' rfl, List.take_of_length_le (by rw [vb_length, vb_length, hroot.1, hold.1]; omega)]
  have HE1 : Hid (∀ W, (Op.equalIn 9999 24 (.agg (List.take 32 TV).toArray) (.agg (List.take 32 TV).toArray)).run Tryd.prog W = .ok true W) := Lib.hid fun W => by rw [ht1]; exact dig_in old hold.1 W
  have HE2 : Hid (∀ W, (Op.equalIn 9999 24 (.agg (List.take 32 (List.drop 32 TV)).toArray) (.agg (List.take 32 (List.drop 32 TV)).toArray)).run Tryd.prog W = .ok true W) := Lib.hid fun W => by rw [ht2]; exact dig_in root hroot.1 W
  clear ht1 ht2
  obtain ⟨SV, hSV⟩ : ∃ V, V = vb (old ++ old) := ⟨_, rfl⟩
  have ha1 := build_lo old hold.1
  have ha2 := build_hi old old hold.1 hold.1
  have hc1 := build_lo old hold.1
  have hc2 := build_hi old root hold.1 hroot.1
  rw [← hSV, ← hOV] at ha2
  rw [← hOV] at ha1
  rw [← hOV] at hc1
  rw [← hOV, ← hRV, ← hTV] at hc2
  obtain ⟨M1, hM1⟩ : ∃ M, M = (OV ++ vb (List.replicate 32 0)).toArray := ⟨_, rfl⟩
  obtain ⟨M2, hM2⟩ : ∃ M, M = (OV ++ vb (List.replicate 32 0)).toArray := ⟨_, rfl⟩
  have HAs : Hid (M1.size = 64) := Lib.hid (by rw [hM1]; simp [HOL.out, vb])
  have HCs : Hid (M2.size = 64) := Lib.hid (by rw [hM2]; simp [HOL.out, vb])
  rw [← hM1] at ha1 ha2
  rw [← hM2] at hc1 hc2
  have HA1 := Lib.hid ha1
  have HA2 := Lib.hid ha2
  have HC1 := Lib.hid hc1
  have HC2 := Lib.hid hc2
  obtain ⟨FV, hFV⟩ : ∃ V, V = OV := ⟨_, rfl⟩
  have HFL : Hid (FV.length = 32) := Lib.hid (by rw [hFV]; exact HOL.out)
  have HFI : Hid ((Tryd.prog.info? 24).map (·.size) = some FV.length) := Lib.hid (by rw [HFL.out]; kernel_rfl)
  rw [← hFV] at HA1 HA2
  obtain ⟨W2, hW2⟩ : ∃ W2, W2 = (w.alloc (.cells OV.toArray 24)).alloc (.cells RV.toArray 24) := ⟨_, rfl⟩
  have hk2 : Keeps (fun _ => False) w W2 := by rw [hW2]; exact ((Keeps.refl _ w).alloc _).alloc _
  have HB1 : Hid (Blk W2 w.heap.size 24 OV) := Lib.hid (by rw [hW2]; exact (Blk.new w _ _).alloc _)
  have HB2 : Hid (Blk W2 (w.heap.size + 1) 24 RV) := Lib.hid (by
    have h5 := Blk.new (w.alloc (.cells OV.toArray 24)) 24 RV
    rw [World.size_alloc] at h5
    rw [hW2]; exact h5)
  have HK2 := Lib.hid hk2
  have HWY := Lib.hid (gway_any n m true W2 (by omega) hm0 hmn)
  rw [hkn] at HWY
  obtain ⟨way, hway⟩ : ∃ way, way = (gwayF m n true).1 := ⟨_, rfl⟩
  rw [← hway] at hr hres HWY hwl ⊢
  obtain ⟨K, hK⟩ : ∃ K, K = way.length := ⟨_, rfl⟩
  rw [← hK] at hr HWY hwl ⊢
  have HCLG : Hid (∀ W Aw cw, Keeps (fun _ => False) w W → Rd W Aw K (vbool way) → Calls Tryd.prog 60 #[.agg SV.toArray, .slice Aw K cw, .slice A K c, .func (.func 57) #[] #[], .func (.func 58) #[] #[], .func (.func 59) #[] #[]] W fun e w' => e = .returned (.agg TV.toArray) ∧ Keeps (fun _ => False) W w') := Lib.hid fun W Aw cw hW hrw => by
    rw [hSV, hTV, ← hres]
    exact climbT W (hG.keep hW (fun _ h => h.elim)) (old ++ old) ⟨by rw [List.length_append, hold.1], bytes_appB hold.2 hold.2⟩ Aw K cw way hK.symm hrw A c ps (hr.keep hW (no_out _ _)) (by omega)
  rw [← hOV, ← hRV]
  rw [hW2] at HB1 HB2 HK2 HWY
  have n1 : ¬ (n : Int) < 0 := by omega
  have n2 : ¬ (9007199254740991 : Int) < (n : Int) := by omega
  have n3 : ¬ (m : Int) < 0 := by omega
  have n4 : ¬ (n : Int) < (m : Int) := by omega
  have n5 : (0 : Int) < (m : Int) := by omega
  have n6 : ((m : Int) == 0) = false := by simp; omega
  have w9 : IntKind.i64.wrap ((K : Int) + 1) = (K : Int) + 1 := IntWalk.i64_in _ (by omega)
  have HZF := Lib.hid fun W => Blk.new W 24 (List.replicate 32 (Value.int .u8 0))
  have HFVE := Lib.hid hFV
  clear hway hK hres hOV hRV hTV hSV hW2 hk2 hr hold hroot hG ha1 ha2 hc1 hc2 hM1 hM2 hkn hFV
  go_enter Tryd.func30, Tryd.ntmps30
  go_wp2_with (first
    | (go_at_call 56; refine HWY.out.mono ?_; rintro e w3 ⟨Aw, cw, rfl, hmw⟩; have hk3 := HK2.out.trans hmw.2.1 (fun _ _ h => h); have HKW := Lib.hid hk3; have HB31 := Lib.hid (hmw.2.1.blk HB1.out (fun h => h)); have HB32 := Lib.hid (hmw.2.1.blk HB2.out (fun h => h)); have HRW := Lib.hid (Rd.of_own hmw.1); clear hk3 hmw)
    | ((with_reducible show wpList _ _ _ (⟨some 70, Op.load 24 _, _, _, _, _⟩ :: _) _ _); refine wpList_load_whole rfl 24 _ rfl _ rfl HB31.out Tryd.underlying24 rfl HOI.out ?_)
    | ((with_reducible show wpList _ _ _ (⟨none, Op.store 24 _ _, _, _, _, _⟩ :: _) _ _); refine wpList_store_whole rfl 24 _ _ rfl OV rfl rfl (HZF.out w3) (by rw [HOL.out]; simp) HOI.out HO1.out ?_; refine gen_world (fun W => Blk W w.heap.size 24 OV ∧ Blk W (w.heap.size + 1) 24 RV ∧ Blk W w3.heap.size 24 OV ∧ Keeps (fun _ => False) w3 W) ⟨(HB31.out.alloc _).setRow_far (by have := HB31.out.lt; omega) _, (HB32.out.alloc _).setRow_far (by have := HB32.out.lt; omega) _, (HZF.out w3).setRow OV, ((Keeps.refl _ w3).alloc _).setRow (.inr (Nat.le_refl _)) _⟩ ?_; rintro w4 ⟨hb41, hb42, hb4f, hk4⟩; have HB41 := Lib.hid hb41; have HB42 := Lib.hid hb42; have HB4F := Lib.hid hb4f; have HK4 := Lib.hid hk4; clear hb41 hb42 hb4f hk4))
  obtain ⟨w5, hw5⟩ : ∃ w5, w5 = w4 := ⟨_, rfl⟩
  rw [← hw5]
  have HB51 : Hid (Blk w5 w.heap.size 24 OV) := Lib.hid (by rw [hw5]; exact HB41.out)
  have HB52 : Hid (Blk w5 (w.heap.size + 1) 24 RV) := Lib.hid (by rw [hw5]; exact HB42.out)
  have HB5F : Hid (Blk w5 w3.heap.size 24 FV) := Lib.hid (by rw [hw5, HFVE.out]; exact HB4F.out)
  have HK5 : Hid (Keeps (fun _ => False) w3 w5) := Lib.hid (by rw [hw5]; exact HK4.out)
  have HCL : Hid (∀ W, Keeps (fun _ => False) w5 W → _) := Lib.hid (fun W hW => HCLG.out W Aw cw ((HKW.out.trans HK5.out (fun _ _ h => h)).trans hW (fun _ _ h => h)) (HRW.out.keep (HK5.out.trans hW (fun _ _ h => h)) (no_out _ _)))
  clear hw5
  have HRF : Hid (∀ W, Keeps (fun _ => False) w5 W → W.rangeAt w3.heap.size 0 FV) := Lib.hid fun W hW j v hv => by rw [Nat.zero_add, (hW.blk HB5F.out (fun h => h)).cell, hv]
  have HRO : Hid (∀ W, Keeps (fun _ => False) w5 W → W.rangeAt w.heap.size 0 OV) := Lib.hid fun W hW j v hv => by rw [Nat.zero_add, (hW.blk HB51.out (fun h => h)).cell, hv]
  have HRR : Hid (∀ W, Keeps (fun _ => False) w5 W → W.rangeAt (w.heap.size + 1) 0 RV) := Lib.hid fun W hW j v hv => by rw [Nat.zero_add, (hW.blk HB52.out (fun h => h)).cell, hv]
  refine wp_region_held_drew (S := Keeps (fun _ => False) w5) (by kernel_rfl) (Keeps.refl (fun _ => False) _).drew (fun hHeld => ?_)
  refine wpAnyH_take (i := 0) (oi := ⟨some 78, _, _, _, _, _⟩) (v := _) rfl (by kernel_rfl) (by kernel_rfl) (by kernel_rfl) (fun _ _ _ h => h) (yieldsIf_load_mid (by rfl) _ _ rfl _ _ rfl FV _ (fun w' h => HRF.out _ h) Tryd.underlying24 rfl HFI.out) hHeld ?_
  try simp only [Act.put, List.setIfInBounds_toArray, List.set_cons_zero, List.set_cons_succ]
  refine wpAnyH_take (i := 1) (oi := ⟨some 79, _, _, _, _, _⟩) (v := _) rfl (by kernel_rfl) (by kernel_rfl) (by kernel_rfl) (fun _ _ _ h => h) (yieldsIf_load_mid (by rfl) _ _ rfl _ _ rfl FV _ (fun w' h => HRF.out _ h) Tryd.underlying24 rfl HFI.out) hHeld ?_
  try simp only [Act.put, List.setIfInBounds_toArray, List.set_cons_zero, List.set_cons_succ]
  refine wpAnyH_take (i := 2) (oi := ⟨some 80, _, _, _, _, _⟩) (v := ?_) rfl (by kernel_rfl) (by kernel_rfl) (by kernel_rfl) (fun _ _ _ h => h) (Or.inl ⟨by rfl, ?_⟩) hHeld ?_
  rotate_left
  · intro w' hSw
    have cv1 := HA1.out; have cv2 := HA2.out; have cv3 := HFL.out; have cv5 := HAs.out
    go_simp
    first | done | rfl
  try simp only [Act.put, List.setIfInBounds_toArray, List.set_cons_zero, List.set_cons_succ]
  refine wpAnyH_take (i := 3) (oi := ⟨some 81, _, _, _, _, _⟩) (v := ?_) rfl (by kernel_rfl) (by kernel_rfl) (by kernel_rfl) (fun _ _ _ h => h) (Or.inl ⟨by rfl, ?_⟩) hHeld ?_
  rotate_left
  · intro w' hSw
    go_simp
    first | done | rfl
  try simp only [Act.put, List.setIfInBounds_toArray, List.set_cons_zero, List.set_cons_succ]
  refine wpAnyH_take (i := 4) (oi := ⟨some 82, _, _, _, _, _⟩) (v := ?_) rfl (by kernel_rfl) (by kernel_rfl) (by kernel_rfl) (fun _ _ _ h => h) (Or.inl ⟨by rfl, ?_⟩) hHeld ?_
  rotate_left
  · intro w' hSw
    go_simp
    first | done | rfl
  try simp only [Act.put, List.setIfInBounds_toArray, List.set_cons_zero, List.set_cons_succ]
  refine wpAnyH_take (i := 5) (oi := ⟨some 83, _, _, _, _, _⟩) (v := ?_) rfl (by kernel_rfl) (by kernel_rfl) (by kernel_rfl) (fun _ _ _ h => h) (Or.inl ⟨by rfl, ?_⟩) hHeld ?_
  rotate_left
  · intro w' hSw
    go_simp
    first | done | rfl
  try simp only [Act.put, List.setIfInBounds_toArray, List.set_cons_zero, List.set_cons_succ]
  refine wpAnyH_take (i := 6) (oi := ⟨some 84, _, _, _, _, _⟩) (v := ?_) rfl (by kernel_rfl) (by kernel_rfl) (by kernel_rfl) (fun _ _ _ h => h) (Or.inl ⟨by rfl, ?_⟩) hHeld ?_
  rotate_left
  · intro w' hSw
    go_simp
    first | done | rfl
  try simp only [Act.put, List.setIfInBounds_toArray, List.set_cons_zero, List.set_cons_succ]
  refine wpAnyH_take (i := 7) (oi := ⟨some 85, _, _, _, _, _⟩) (v := ?_) rfl (by kernel_rfl) (by kernel_rfl) (by kernel_rfl) (fun _ _ _ h => h) (Or.inl ⟨by rfl, ?_⟩) hHeld ?_
  rotate_left
  · intro w' hSw
    go_simp
    first | done | rfl
  try simp only [Act.put, List.setIfInBounds_toArray, List.set_cons_zero, List.set_cons_succ]
  refine wpAnyH_take (i := 9) (oi := ⟨some 87, _, _, _, _, _⟩) (v := _) rfl (by kernel_rfl) (by kernel_rfl) (by kernel_rfl) (fun _ _ _ h => h) (yieldsIf_load_mid (by rfl) _ _ rfl _ _ rfl OV _ (fun w' h => HRO.out _ h) Tryd.underlying24 rfl HOI.out) hHeld ?_
  try simp only [Act.put, List.setIfInBounds_toArray, List.set_cons_zero, List.set_cons_succ]
  refine wpAnyH_take (i := 10) (oi := ⟨some 88, _, _, _, _, _⟩) (v := _) rfl (by kernel_rfl) (by kernel_rfl) (by kernel_rfl) (fun _ _ _ h => h) (yieldsIf_load_mid (by rfl) _ _ rfl _ _ rfl RV _ (fun w' h => HRR.out _ h) Tryd.underlying24 rfl HRI.out) hHeld ?_
  try simp only [Act.put, List.setIfInBounds_toArray, List.set_cons_zero, List.set_cons_succ]
  refine wpAnyH_take (i := 11) (oi := ⟨some 89, _, _, _, _, _⟩) (v := ?_) rfl (by kernel_rfl) (by kernel_rfl) (by kernel_rfl) (fun _ _ _ h => h) (Or.inl ⟨by rfl, ?_⟩) hHeld ?_
  rotate_left
  · intro w' hSw
    have cv1 := HC1.out; have cv2 := HC2.out; have cv3 := HOL.out; have cv4 := HRL.out; have cv5 := HCs.out
    go_simp
    first | done | rfl
  try simp only [Act.put, List.setIfInBounds_toArray, List.set_cons_zero, List.set_cons_succ]
  refine wpAnyH_ready (rs := [8]) (by kernel_rfl) (by simp) ?_
  refine AllReadyH.cons (o := ⟨some 86, _, _, _, _, _⟩) rfl (fun K hK => ?_) AllReadyH.nil
  go_simp
  refine (HCL.out _ hHeld).mono ?_
  rintro e v8 ⟨rfl, hk8⟩
  have hq8 := hHeld.trans hk8 (fun _ _ h => h)
  refine hK.out _ _ hq8 (fun hHeld => ?_)
  clear hK K
  try simp only [Act.put, List.setIfInBounds_toArray, List.set_cons_zero, List.set_cons_succ]
  refine wpAnyH_take (i := 12) (oi := ⟨some 90, _, _, _, _, _⟩) (v := ?_) rfl (by kernel_rfl) (by kernel_rfl) (by kernel_rfl) (fun _ _ _ h => h) (Or.inl ⟨by rfl, ?_⟩) hHeld ?_
  rotate_left
  · intro w' hSw
    have cv1 := HE1.out w'; have cv2 := HE2.out w'
    go_simp
    first | done | rfl
  try simp only [Act.put, List.setIfInBounds_toArray, List.set_cons_zero, List.set_cons_succ]
  refine wpAnyH_done (by kernel_rfl) ?_ _
  go_wp2
  go_ret
  exact ⟨rfl, (HKW.out.trans HK5.out (fun _ _ h => h)).trans hq8 (fun _ _ h => h)⟩
set_option maxRecDepth 100000 in
set_option maxHeartbeats 8000000 in
theorem cgrow_new (w : World) (hG : Glob w) (old root s : List Int) (hold : IsDig old) (hroot : IsDig root) (hs : IsDig s) (m n : Nat) (hn : n ≤ 9007199254740991) (hm0 : 0 < m) (hmn : m ≤ n) (A : Option Addr) (c : Nat) (ps : List (List Int)) (hkn : (gwayF m n true).2 = false)
    (hr : RdD w A ((gwayF m n true).1.length + 1) (s :: ps)) (hcap : (gwayF m n true).1.length + 1 ≤ c) (hres : climbF joinT2 ofT2 aheadT2 (s ++ s) (gwayF m n true).1 ps = old ++ root) :
    Calls Tryd.prog 30 #[.int .i64 m, .agg (vb old).toArray, .int .i64 n, .agg (vb root).toArray, .slice A ((gwayF m n true).1.length + 1) c] w fun e w' => e = .returned .nilIface ∧ Keeps (fun _ => False) w w' := by
  have hwl := gway_short m n 53 true (by omega)
  obtain ⟨OV, hOV⟩ : ∃ V, V = vb old := ⟨_, rfl⟩
  obtain ⟨RV, hRV⟩ : ∃ V, V = vb root := ⟨_, rfl⟩
  obtain ⟨TV, hTV⟩ : ∃ V, V = vb (old ++ root) := ⟨_, rfl⟩
  have HOL : Hid (OV.length = 32) := Lib.hid (by rw [hOV, vb_length]; exact hold.1)
  have HRL : Hid (RV.length = 32) := Lib.hid (by rw [hRV, vb_length]; exact hroot.1)
  have HO1 : Hid (∀ u ∈ OV, u.oneCell' = true) := Lib.hid (by rw [hOV]; exact vb_one _)
  have HOI : Hid ((Tryd.prog.info? 24).map (·.size) = some OV.length) := Lib.hid (by rw [HOL.out]; kernel_rfl)
  have HRI : Hid ((Tryd.prog.info? 24).map (·.size) = some RV.length) := Lib.hid (by rw [HRL.out]; kernel_rfl)
  obtain ⟨FV, hFV⟩ : ∃ V, V = vb s := ⟨_, rfl⟩
  have HFL : Hid (FV.length = 32) := Lib.hid (by rw [hFV, vb_length]; exact hs.1)
  have HF1 : Hid (∀ u ∈ FV, u.oneCell' = true) := Lib.hid (by rw [hFV]; exact vb_one _)
  have HFI : Hid ((Tryd.prog.info? 24).map (·.size) = some FV.length) := Lib.hid (by rw [HFL.out]; kernel_rfl)
  have ht1 : List.take 32 TV = vb old := by rw [hTV, vb_app, ← hold.1, ← vb_length old, List.take_left' rfl]
  have ht2 : List.take 32 (List.drop 32 TV) = vb root := by
    rw [hTV, vb_app, ← hold.1, ← vb_length old, List.drop_left' rfl, List.take_of_length_le (by rw [vb_length, vb_length, hroot.1, hold.1]; omega)]
  have HE1 : Hid (∀ W, (Op.equalIn 9999 24 (.agg (List.take 32 TV).toArray) (.agg (List.take 32 TV).toArray)).run Tryd.prog W = .ok true W) := Lib.hid fun W => by rw [ht1]; exact dig_in old hold.1 W
  have HE2 : Hid (∀ W, (Op.equalIn 9999 24 (.agg (List.take 32 (List.drop 32 TV)).toArray) (.agg (List.take 32 (List.drop 32 TV)).toArray)).run Tryd.prog W = .ok true W) := Lib.hid fun W => by rw [ht2]; exact dig_in root hroot.1 W
  clear ht1 ht2
  obtain ⟨SV, hSV⟩ : ∃ V, V = vb (s ++ s) := ⟨_, rfl⟩
  have ha1 := build_lo s hs.1
  have ha2 := build_hi s s hs.1 hs.1
  have hc1 := build_lo old hold.1
  have hc2 := build_hi old root hold.1 hroot.1
  rw [← hSV, ← hFV] at ha2
  rw [← hFV] at ha1
  rw [← hOV] at hc1
  rw [← hOV, ← hRV, ← hTV] at hc2
  obtain ⟨M1, hM1⟩ : ∃ M, M = (FV ++ vb (List.replicate 32 0)).toArray := ⟨_, rfl⟩
  obtain ⟨M2, hM2⟩ : ∃ M, M = (OV ++ vb (List.replicate 32 0)).toArray := ⟨_, rfl⟩
  have HAs : Hid (M1.size = 64) := Lib.hid (by rw [hM1]; simp [HFL.out, vb])
  have HCs : Hid (M2.size = 64) := Lib.hid (by rw [hM2]; simp [HOL.out, vb])
  rw [← hM1] at ha1 ha2
  rw [← hM2] at hc1 hc2
  have HA1 := Lib.hid ha1
  have HA2 := Lib.hid ha2
  have HC1 := Lib.hid hc1
  have HC2 := Lib.hid hc2
  obtain ⟨W2, hW2⟩ : ∃ W2, W2 = (w.alloc (.cells OV.toArray 24)).alloc (.cells RV.toArray 24) := ⟨_, rfl⟩
  have hk2 : Keeps (fun _ => False) w W2 := by rw [hW2]; exact ((Keeps.refl _ w).alloc _).alloc _
  have HB1 : Hid (Blk W2 w.heap.size 24 OV) := Lib.hid (by rw [hW2]; exact (Blk.new w _ _).alloc _)
  have HB2 : Hid (Blk W2 (w.heap.size + 1) 24 RV) := Lib.hid (by
    have h5 := Blk.new (w.alloc (.cells OV.toArray 24)) 24 RV
    rw [World.size_alloc] at h5
    rw [hW2]; exact h5)
  have HK2 := Lib.hid hk2
  have HWY := Lib.hid (gway_any n m true W2 (by omega) hm0 hmn)
  rw [hkn] at HWY
  obtain ⟨way, hway⟩ : ∃ way, way = (gwayF m n true).1 := ⟨_, rfl⟩
  rw [← hway] at hr hres HWY hwl ⊢
  obtain ⟨K, hK⟩ : ∃ K, K = way.length := ⟨_, rfl⟩
  rw [← hK] at hr HWY hwl ⊢
  rw [← hway, ← hK] at hcap
  have HCLG : Hid (∀ W Aw cw, Keeps (fun _ => False) w W → Rd W Aw K (vbool way) → Calls Tryd.prog 60 #[.agg SV.toArray, .slice Aw K cw, .slice (cutD A c 1) K (c - 1), .func (.func 57) #[] #[], .func (.func 58) #[] #[], .func (.func 59) #[] #[]] W fun e w' => e = .returned (.agg TV.toArray) ∧ Keeps (fun _ => False) W w') := Lib.hid fun W Aw cw hW hrw => by
    rw [hSV, hTV, ← hres]
    have hcut := (hr.keep hW (no_out _ _)).cut (k := 1) (c := c) (by omega) (by omega)
    rw [Nat.add_sub_cancel] at hcut
    exact climbT W (hG.keep hW (fun _ h => h.elim)) (s ++ s) ⟨by rw [List.length_append, hs.1], bytes_appB hs.2 hs.2⟩ Aw K cw way hK.symm hrw _ _ ps hcut (by omega)
  have HL00 : Hid (∀ W, Keeps (fun _ => False) w W → ∃ g o, A = some ⟨g, o, none⟩ ∧ Lies W g o FV) := Lib.hid fun W hW => by
    obtain ⟨g, o, d, e, hd, hl⟩ := (hr.keep hW (no_out _ _)).lies (k := 0) (by omega)
    have hde : s = d := by simpa using hd
    subst hde
    rw [Nat.zero_mul, Nat.add_zero] at hl
    exact ⟨g, o, e, by rw [hFV]; exact hl⟩
  have HCUT : Hid (∀ W, (Instr.sliceAt 36 (.slice A (K + 1) c) (some (.int .i64 1)) none none).run Tryd.prog W = .ok (.slice (cutD A c 1) K (c - 1)) W) := Lib.hid fun W => by
    have h9 := cutD_l (P := Tryd.prog) Tryd.underlying36 (by kernel_rfl) A (K + 1) c 1 1 rfl (by omega) W
    rwa [Nat.add_sub_cancel] at h9
  obtain ⟨g0, o0, hA0, _⟩ := HL00.out w (Keeps.refl _ _)
  subst hA0
  rw [← hOV, ← hRV]
  rw [hW2] at HB1 HB2 HK2 HWY
  have n1 : ¬ (n : Int) < 0 := by omega
  have n2 : ¬ (9007199254740991 : Int) < (n : Int) := by omega
  have n3 : ¬ (m : Int) < 0 := by omega
  have n4 : ¬ (n : Int) < (m : Int) := by omega
  have n5 : (0 : Int) < (m : Int) := by omega
  have n6 : ((m : Int) == 0) = false := by simp; omega
  have w9 : IntKind.i64.wrap ((K : Int) + 1) = (K : Int) + 1 := IntWalk.i64_in _ (by omega)
  have HZF := Lib.hid fun W => Blk.new W 24 (List.replicate 32 (Value.int .u8 0))
  have HFVE := Lib.hid hFV
  clear hway hK hres hOV hRV hTV hSV hW2 hk2 hr hold hroot hG ha1 ha2 hc1 hc2 hM1 hM2 hkn hFV hs
  go_enter Tryd.func30, Tryd.ntmps30
  go_wp2_with (first
    | (go_at_call 56; refine HWY.out.mono ?_; rintro e w3 ⟨Aw, cw, rfl, hmw⟩; have hk3 := HK2.out.trans hmw.2.1 (fun _ _ h => h); have HKW := Lib.hid hk3; have HB31 := Lib.hid (hmw.2.1.blk HB1.out (fun h => h)); have HB32 := Lib.hid (hmw.2.1.blk HB2.out (fun h => h)); have HRW := Lib.hid (Rd.of_own hmw.1); clear hk3 hmw)
    | ((with_reducible show wpList _ _ _ (⟨some 70, Op.load 24 _, _, _, _, _⟩ :: _) _ _); refine wpList_load_whole rfl 24 _ rfl _ rfl HB31.out Tryd.underlying24 rfl HOI.out ?_)
    | ((with_reducible show wpList _ _ _ (⟨none, Op.store 24 _ _, _, _, _, _⟩ :: _) _ _); refine wpList_store_whole rfl 24 _ _ rfl OV rfl rfl (HZF.out w3) (by rw [HOL.out]; simp) HOI.out HO1.out ?_; refine gen_world (fun W => Blk W w.heap.size 24 OV ∧ Blk W (w.heap.size + 1) 24 RV ∧ Blk W w3.heap.size 24 OV ∧ Keeps (fun _ => False) w3 W) ⟨(HB31.out.alloc _).setRow_far (by have := HB31.out.lt; omega) _, (HB32.out.alloc _).setRow_far (by have := HB32.out.lt; omega) _, (HZF.out w3).setRow OV, ((Keeps.refl _ w3).alloc _).setRow (.inr (Nat.le_refl _)) _⟩ ?_; rintro w4 ⟨hb41, hb42, hb4f, hk4⟩; have HB41 := Lib.hid hb41; have HB42 := Lib.hid hb42; have HB4F := Lib.hid hb4f; have HK4 := Lib.hid hk4; clear hb41 hb42 hb4f hk4))
  have HL0 : Hid (∀ W, Keeps (fun _ => False) w4 W → Lies W g0 o0 FV) := Lib.hid fun W hW => by
    obtain ⟨g, o, e, hl⟩ := HL00.out W ((HKW.out.trans HK4.out (fun _ _ h => h)).trans hW (fun _ _ h => h))
    injection e with e
    injection e with e1 e2
    subst e1 e2
    exact hl
  refine wp_region_tail (S := Keeps (fun _ => False) w4) 5 (by kernel_rfl) (Keeps.refl (fun _ => False) _).drew (fun hHeld => ?_)
  refine wpAnyT_pure (i := 0) (oi := ⟨some 73, _, _, _, _, _⟩) (v := ?_) rfl (by kernel_rfl) (by kernel_rfl) (by kernel_rfl) (fun _ _ _ h => h) (Or.inl ⟨by rfl, ?_⟩) ?_
  rotate_left
  · intro w' hSw
    go_simp
    first | done | rfl
  try simp only [Act.put, List.setIfInBounds_toArray, List.set_cons_zero, List.set_cons_succ]
  refine wpAnyT_pure (i := 1) (oi := ⟨some 74, _, _, _, _, _⟩) (v := ?_) rfl (by kernel_rfl) (by kernel_rfl) (by kernel_rfl) (fun _ _ _ h => h) (Or.inl ⟨by rfl, ?_⟩) ?_
  rotate_left
  · intro w' hSw
    go_simp
    first | done | rfl
  try simp only [Act.put, List.setIfInBounds_toArray, List.set_cons_zero, List.set_cons_succ]
  refine wpAnyT_take [2] (i := 2) (oi := ⟨some 75, _, _, _, _, _⟩) (v := _) rfl (by kernel_rfl) (by kernel_rfl) (by kernel_rfl) (by kernel_rfl) (by kernel_rfl) (fun _ _ _ h => h) (yieldsIf_load_mid (by rfl) _ _ rfl _ _ rfl FV _ (fun w' h => lies_range (HL0.out _ h)) Tryd.underlying24 rfl HFI.out) hHeld ?_
  try simp only [Act.put, List.setIfInBounds_toArray, List.set_cons_zero, List.set_cons_succ]
  refine wpAnyT_pure (i := 3) (oi := ⟨some 76, _, _, _, _, _⟩) (v := ?_) rfl (by kernel_rfl) (by kernel_rfl) (by kernel_rfl) (fun _ _ _ h => h) (Or.inl ⟨by rfl, ?_⟩) ?_
  rotate_left
  · intro w' hSw
    go_simp
    first | done | rfl
  try simp only [Act.put, List.setIfInBounds_toArray, List.set_cons_zero, List.set_cons_succ]
  refine wpAnyT_pure (i := 4) (oi := ⟨some 77, _, _, _, _, _⟩) (v := ?_) rfl (by kernel_rfl) (by kernel_rfl) (by kernel_rfl) (fun _ _ _ h => h) (Or.inl ⟨by rfl, ?_⟩) ?_
  rotate_left
  · intro w' hSw
    have cv := HCUT.out w'
    go_simp
    first | done | rfl
  try simp only [Act.put, List.setIfInBounds_toArray, List.set_cons_zero, List.set_cons_succ]
  refine wpAnyT_tail (i := 5) (o := ⟨none, _, _, _, _, _⟩) (by kernel_rfl) (by kernel_rfl) rfl (fun K hK => ?_)
  refine stepH_store rfl 24 _ _ rfl FV rfl rfl (hHeld.blk HB4F.out (fun h => h)) (by rw [HFL.out, HOL.out]) HFI.out HF1.out ?_
  refine hK.out _ _ ?_
  clear hK K
  try simp only [Act.put, List.setIfInBounds_toArray, List.set_cons_zero, List.set_cons_succ]
  refine wpAnyT_tail (i := 6) (o := ⟨some 4, _, _, _, _, _⟩) (by kernel_rfl) (by kernel_rfl) rfl (fun K hK => ?_)
  go_simp
  refine hK.out _ _ ?_
  clear hK K
  try simp only [Act.put, List.setIfInBounds_toArray, List.set_cons_zero, List.set_cons_succ]
  refine wpAnyT_done (by kernel_rfl) ?_
  obtain ⟨w5, hw5⟩ : ∃ w5, w5 = w4.drew.setRow w3.heap.size FV.toArray := ⟨_, rfl⟩
  rw [← hw5]
  have HB51 : Hid (Blk w5 w.heap.size 24 OV) := Lib.hid (by rw [hw5]; exact HB41.out.drew.setRow_far (by have := HB31.out.lt; omega) _)
  have HB52 : Hid (Blk w5 (w.heap.size + 1) 24 RV) := Lib.hid (by rw [hw5]; exact HB42.out.drew.setRow_far (by have := HB32.out.lt; omega) _)
  have HB5F : Hid (Blk w5 w3.heap.size 24 FV) := Lib.hid (by rw [hw5]; exact HB4F.out.drew.setRow FV)
  have HK5 : Hid (Keeps (fun _ => False) w3 w5) := Lib.hid (by rw [hw5]; exact HK4.out.drew.setRow (.inr (Nat.le_refl _)) _)
  have HCL : Hid (∀ W, Keeps (fun _ => False) w5 W → _) := Lib.hid (fun W hW => HCLG.out W Aw cw ((HKW.out.trans HK5.out (fun _ _ h => h)).trans hW (fun _ _ h => h)) (HRW.out.keep (HK5.out.trans hW (fun _ _ h => h)) (no_out _ _)))
  clear hw5
  go_wp2
  have HRF : Hid (∀ W, Keeps (fun _ => False) w5 W → W.rangeAt w3.heap.size 0 FV) := Lib.hid fun W hW j v hv => by rw [Nat.zero_add, (hW.blk HB5F.out (fun h => h)).cell, hv]
  have HRO : Hid (∀ W, Keeps (fun _ => False) w5 W → W.rangeAt w.heap.size 0 OV) := Lib.hid fun W hW j v hv => by rw [Nat.zero_add, (hW.blk HB51.out (fun h => h)).cell, hv]
  have HRR : Hid (∀ W, Keeps (fun _ => False) w5 W → W.rangeAt (w.heap.size + 1) 0 RV) := Lib.hid fun W hW j v hv => by rw [Nat.zero_add, (hW.blk HB52.out (fun h => h)).cell, hv]
  refine wp_region_held_drew (S := Keeps (fun _ => False) w5) (by kernel_rfl) (Keeps.refl (fun _ => False) _).drew (fun hHeld => ?_)
  refine wpAnyH_take (i := 0) (oi := ⟨some 78, _, _, _, _, _⟩) (v := _) rfl (by kernel_rfl) (by kernel_rfl) (by kernel_rfl) (fun _ _ _ h => h) (yieldsIf_load_mid (by rfl) _ _ rfl _ _ rfl FV _ (fun w' h => HRF.out _ h) Tryd.underlying24 rfl HFI.out) hHeld ?_
  try simp only [Act.put, List.setIfInBounds_toArray, List.set_cons_zero, List.set_cons_succ]
  refine wpAnyH_take (i := 1) (oi := ⟨some 79, _, _, _, _, _⟩) (v := _) rfl (by kernel_rfl) (by kernel_rfl) (by kernel_rfl) (fun _ _ _ h => h) (yieldsIf_load_mid (by rfl) _ _ rfl _ _ rfl FV _ (fun w' h => HRF.out _ h) Tryd.underlying24 rfl HFI.out) hHeld ?_
  try simp only [Act.put, List.setIfInBounds_toArray, List.set_cons_zero, List.set_cons_succ]
  refine wpAnyH_take (i := 2) (oi := ⟨some 80, _, _, _, _, _⟩) (v := ?_) rfl (by kernel_rfl) (by kernel_rfl) (by kernel_rfl) (fun _ _ _ h => h) (Or.inl ⟨by rfl, ?_⟩) hHeld ?_
  rotate_left
  · intro w' hSw
    have cv1 := HA1.out; have cv2 := HA2.out; have cv3 := HFL.out; have cv5 := HAs.out
    go_simp
    first | done | rfl
  try simp only [Act.put, List.setIfInBounds_toArray, List.set_cons_zero, List.set_cons_succ]
  refine wpAnyH_take (i := 3) (oi := ⟨some 81, _, _, _, _, _⟩) (v := ?_) rfl (by kernel_rfl) (by kernel_rfl) (by kernel_rfl) (fun _ _ _ h => h) (Or.inl ⟨by rfl, ?_⟩) hHeld ?_
  rotate_left
  · intro w' hSw
    go_simp
    first | done | rfl
  try simp only [Act.put, List.setIfInBounds_toArray, List.set_cons_zero, List.set_cons_succ]
  refine wpAnyH_take (i := 4) (oi := ⟨some 82, _, _, _, _, _⟩) (v := ?_) rfl (by kernel_rfl) (by kernel_rfl) (by kernel_rfl) (fun _ _ _ h => h) (Or.inl ⟨by rfl, ?_⟩) hHeld ?_
  rotate_left
  · intro w' hSw
    go_simp
    first | done | rfl
  try simp only [Act.put, List.setIfInBounds_toArray, List.set_cons_zero, List.set_cons_succ]
  refine wpAnyH_take (i := 5) (oi := ⟨some 83, _, _, _, _, _⟩) (v := ?_) rfl (by kernel_rfl) (by kernel_rfl) (by kernel_rfl) (fun _ _ _ h => h) (Or.inl ⟨by rfl, ?_⟩) hHeld ?_
  rotate_left
  · intro w' hSw
    go_simp
    first | done | rfl
  try simp only [Act.put, List.setIfInBounds_toArray, List.set_cons_zero, List.set_cons_succ]
  refine wpAnyH_take (i := 6) (oi := ⟨some 84, _, _, _, _, _⟩) (v := ?_) rfl (by kernel_rfl) (by kernel_rfl) (by kernel_rfl) (fun _ _ _ h => h) (Or.inl ⟨by rfl, ?_⟩) hHeld ?_
  rotate_left
  · intro w' hSw
    go_simp
    first | done | rfl
  try simp only [Act.put, List.setIfInBounds_toArray, List.set_cons_zero, List.set_cons_succ]
  refine wpAnyH_take (i := 7) (oi := ⟨some 85, _, _, _, _, _⟩) (v := ?_) rfl (by kernel_rfl) (by kernel_rfl) (by kernel_rfl) (fun _ _ _ h => h) (Or.inl ⟨by rfl, ?_⟩) hHeld ?_
  rotate_left
  · intro w' hSw
    go_simp
    first | done | rfl
  try simp only [Act.put, List.setIfInBounds_toArray, List.set_cons_zero, List.set_cons_succ]
  refine wpAnyH_take (i := 9) (oi := ⟨some 87, _, _, _, _, _⟩) (v := _) rfl (by kernel_rfl) (by kernel_rfl) (by kernel_rfl) (fun _ _ _ h => h) (yieldsIf_load_mid (by rfl) _ _ rfl _ _ rfl OV _ (fun w' h => HRO.out _ h) Tryd.underlying24 rfl HOI.out) hHeld ?_
  try simp only [Act.put, List.setIfInBounds_toArray, List.set_cons_zero, List.set_cons_succ]
  refine wpAnyH_take (i := 10) (oi := ⟨some 88, _, _, _, _, _⟩) (v := _) rfl (by kernel_rfl) (by kernel_rfl) (by kernel_rfl) (fun _ _ _ h => h) (yieldsIf_load_mid (by rfl) _ _ rfl _ _ rfl RV _ (fun w' h => HRR.out _ h) Tryd.underlying24 rfl HRI.out) hHeld ?_
  try simp only [Act.put, List.setIfInBounds_toArray, List.set_cons_zero, List.set_cons_succ]
  refine wpAnyH_take (i := 11) (oi := ⟨some 89, _, _, _, _, _⟩) (v := ?_) rfl (by kernel_rfl) (by kernel_rfl) (by kernel_rfl) (fun _ _ _ h => h) (Or.inl ⟨by rfl, ?_⟩) hHeld ?_
  rotate_left
  · intro w' hSw
    have cv1 := HC1.out; have cv2 := HC2.out; have cv3 := HOL.out; have cv4 := HRL.out; have cv5 := HCs.out
    go_simp
    first | done | rfl
  try simp only [Act.put, List.setIfInBounds_toArray, List.set_cons_zero, List.set_cons_succ]
  refine wpAnyH_ready (rs := [8]) (by kernel_rfl) (by simp) ?_
  refine AllReadyH.cons (o := ⟨some 86, _, _, _, _, _⟩) rfl (fun K hK => ?_) AllReadyH.nil
  go_simp
  refine (HCL.out _ hHeld).mono ?_
  rintro e v8 ⟨rfl, hk8⟩
  have hq8 := hHeld.trans hk8 (fun _ _ h => h)
  refine hK.out _ _ hq8 (fun hHeld => ?_)
  clear hK K
  try simp only [Act.put, List.setIfInBounds_toArray, List.set_cons_zero, List.set_cons_succ]
  refine wpAnyH_take (i := 12) (oi := ⟨some 90, _, _, _, _, _⟩) (v := ?_) rfl (by kernel_rfl) (by kernel_rfl) (by kernel_rfl) (fun _ _ _ h => h) (Or.inl ⟨by rfl, ?_⟩) hHeld ?_
  rotate_left
  · intro w' hSw
    have cv1 := HE1.out w'; have cv2 := HE2.out w'
    go_simp
    first | done | rfl
  try simp only [Act.put, List.setIfInBounds_toArray, List.set_cons_zero, List.set_cons_succ]
  refine wpAnyH_done (by kernel_rfl) ?_ _
  go_wp2
  go_ret
  exact ⟨rfl, (HKW.out.trans HK5.out (fun _ _ h => h)).trans hq8 (fun _ _ h => h)⟩
end Go.Proofs.YtknecjjdegngfaaDoor
