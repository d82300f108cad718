/-
  WALKS: CheckEntry, CheckGrowth that refuse, at bad arguments, lengths, of nothing; the reference's Entry, Growth.
-/
import Derived.Test.YtknecjjdegngfaaDoorCEntryW
import Derived.Test.YtknecjjdegngfaaDoorCGrowW
import Derived.Test.YtknecjjdegngfaaDoorGrUpW
set_option linter.unusedSimpArgs false
namespace Go.Proofs.YtknecjjdegngfaaDoor
open Go Go.RowKit Go.Sha Go.Aff Go.Book
set_option maxRecDepth 100000 in
theorem dig_inD (D E : List Int) (hD : D.length = 32) (hE : E.length = 32) (W : World) : (Op.equalIn 9999 24 (.agg (vb D).toArray) (.agg (vb E).toArray)).run Tryd.prog W = .ok (decide (D = E)) W := by
  have h := eql_in (digest_eql W D E hD hE)
  obtain ⟨i, hi, hsz⟩ := Option.map_eq_some_iff.1 (show (Tryd.prog.info? 5).map (·.size) = some 1 by kernel_rfl)
  have hs : Tryd.prog.cellsOf 5 = 1 := by simp [Program.cellsOf, hi, hsz]
  have h9 := fun f => run_eqItems_row (P := Tryd.prog) W f 5 .u8 Tryd.underlying5 D E (List.range 32) (by intro i hi; simp at hi; omega)
  rw [run_equalIn_array W 9999 _ _ Tryd.underlying24 hi, hs] at h
  rw [run_equalIn_array W 9998 _ _ Tryd.underlying24 hi, hs]
  unfold vb at h ⊢
  rw [h9 9998] at h
  rw [h9 9997]
  exact h
set_option maxRecDepth 100000 in
set_option maxHeartbeats 4000000 in
theorem centry_not (w : World) (hG : Glob w) (root leaf : List Int) (hroot : IsDig root) (hleaf : IsDig leaf) (n i : Nat) (hn : n ≤ 9007199254740991) (hi : i < n) (A : Option Addr) (c : Nat) (ps : List (List Int)) (hr : RdD w A (wayF i n).length ps)
    (dd : List Int) (hdd : IsDig dd) (hne : dd ≠ root) (hres : climbF pairF id aheadF leaf (wayF i n) ps = dd) :
    Calls Tryd.prog 26 #[.agg (vb root).toArray, .int .i64 n, .int .i64 i, .agg (vb leaf).toArray, .slice A (wayF i n).length c] w fun e w' => e = .returned (errno 271) ∧ Keeps (fun _ => False) w w' := by
  have hwl := way_len i n (by omega)
  obtain ⟨LV, hLV⟩ : ∃ LV, LV = vb leaf := ⟨_, rfl⟩
  obtain ⟨RV, hRV⟩ : ∃ RV, RV = vb root := ⟨_, rfl⟩
  have HLI : Hid ((Tryd.prog.info? 24).map (·.size) = some LV.length) := Lib.hid (by rw [hLV, vb_length, hleaf.1]; kernel_rfl)
  have HRI : Hid ((Tryd.prog.info? 24).map (·.size) = some RV.length) := Lib.hid (by rw [hRV, vb_length, hroot.1]; kernel_rfl)
  obtain ⟨CV, hCV⟩ : ∃ CV, CV = vb dd := ⟨_, rfl⟩
  have HEQ : Hid (∀ W, (Op.equalIn 10000 24 (.agg CV.toArray) (.agg RV.toArray)).run Tryd.prog W = .ok false W) := Lib.hid fun W => by
    have := digest_eql W dd root hdd.1 hroot.1
    rw [decide_eq_false hne] at this
    rw [hRV, hCV]
    exact eql_in this
  obtain ⟨W2, hW2⟩ : ∃ W2, W2 = (w.alloc (.cells RV.toArray 24)).alloc (.cells LV.toArray 24) := ⟨_, rfl⟩
  have hk2 : Keeps (fun _ => False) w W2 := by rw [hW2]; exact ((Keeps.refl _ w).alloc _).alloc _
  have HB1 : Hid (Blk W2 w.heap.size 24 RV) := Lib.hid (by rw [hW2]; exact (Blk.new w _ _).alloc _)
  have HB2 : Hid (Blk W2 (w.heap.size + 1) 24 LV) := Lib.hid (by
    have h5 := Blk.new (w.alloc (.cells RV.toArray 24)) 24 LV
    rw [World.size_alloc] at h5
    rw [hW2]; exact h5)
  have HK2 := Lib.hid hk2
  have HWY := Lib.hid (way_any n i W2 (by omega) hi)
  obtain ⟨way, hway⟩ : ∃ way, way = wayF i n := ⟨_, rfl⟩
  rw [← hway] at hr hres HWY hwl ⊢
  obtain ⟨K, hK⟩ : ∃ K, K = way.length := ⟨_, rfl⟩
  rw [← hK] at hr HWY hwl ⊢
  have HCLG : Hid (∀ W Aw cw, Keeps (fun _ => False) w W → Rd W Aw K (vbool way) → Calls Tryd.prog 52 #[.agg LV.toArray, .slice Aw K cw, .slice A K c, .func (.func 13) #[] #[], .func (.func 50) #[] #[], .func (.func 51) #[] #[]] W fun e w' => e = .returned (.agg CV.toArray) ∧ Keeps (fun _ => False) W w') := Lib.hid fun W Aw cw hW hrw => by
    rw [hLV, hCV, ← hres]
    exact climbD W (hG.keep hW (fun _ h => h.elim)) leaf hleaf Aw K cw way hK.symm hrw A c ps (hr.keep hW (no_out _ _)) (by omega)
  rw [← hLV, ← hRV]
  rw [hW2] at HB1 HB2 HK2 HWY
  have n1 : ¬ (n : Int) < 1 := by omega
  have n2 : ¬ (9007199254740991 : Int) < (n : Int) := by omega
  have n3 : ¬ (i : Int) < 0 := by omega
  have n4 : ¬ (n : Int) ≤ (i : Int) := by omega
  clear hway hK hres hne hdd hCV hLV hRV hW2 hk2 hr hroot hleaf hG
  go_enter Tryd.func26, Tryd.ntmps26
  go_wp2_with (go_at_call 49; refine HWY.out.mono ?_; rintro e w3 ⟨Aw, cw, rfl, hmw⟩; have hk3 := HK2.out.trans hmw.2.1 (fun _ _ h => h); have HKW := Lib.hid hk3; have HB31 := Lib.hid (hmw.2.1.blk HB1.out (fun h => h)); have HB32 := Lib.hid (hmw.2.1.blk HB2.out (fun h => h)); have HCL : Hid (∀ W, Keeps (fun _ => False) w3 W → _) := Lib.hid (fun W hW => HCLG.out W Aw cw (hk3.trans hW (fun _ _ h => h)) ((Rd.of_own hmw.1).keep hW (no_out _ _))); clear hk3 hmw)
  have HRL : Hid (∀ W, Keeps (fun _ => False) w3 W → W.rangeAt (w.heap.size + 1) 0 LV) := Lib.hid fun W hW j v hv => by rw [Nat.zero_add, (hW.blk HB32.out (fun h => h)).cell, hv]
  have HRR : Hid (∀ W, Keeps (fun _ => False) w3 W → W.rangeAt w.heap.size 0 RV) := Lib.hid fun W hW j v hv => by rw [Nat.zero_add, (hW.blk HB31.out (fun h => h)).cell, hv]
  refine wp_region_held_drew (S := Keeps (fun _ => False) w3) (by kernel_rfl) (Keeps.refl (fun _ => False) _).drew (fun hHeld => ?_)
  refine wpAnyH_take (i := 0) (oi := ⟨some 42, _, _, _, _, _⟩) (v := _) rfl (by kernel_rfl) (by kernel_rfl) (by kernel_rfl) (fun _ _ _ h => h) (yieldsIf_load_mid (by rfl) _ _ rfl _ _ rfl LV _ (fun w' h => HRL.out _ h) Tryd.underlying24 rfl HLI.out) hHeld ?_
  try simp only [Act.put, List.setIfInBounds_toArray, List.set_cons_zero, List.set_cons_succ]
  refine wpAnyH_take (i := 1) (oi := ⟨some 43, _, _, _, _, _⟩) (v := ?_) rfl (by kernel_rfl) (by kernel_rfl) (by kernel_rfl) (fun _ _ _ h => h) (Or.inl ⟨by rfl, ?_⟩) hHeld ?_
  rotate_left
  · intro w' hSw
    go_simp
    first | done | rfl
  try simp only [Act.put, List.setIfInBounds_toArray, List.set_cons_zero, List.set_cons_succ]
  refine wpAnyH_take (i := 2) (oi := ⟨some 44, _, _, _, _, _⟩) (v := ?_) rfl (by kernel_rfl) (by kernel_rfl) (by kernel_rfl) (fun _ _ _ h => h) (Or.inl ⟨by rfl, ?_⟩) hHeld ?_
  rotate_left
  · intro w' hSw
    go_simp
    first | done | rfl
  try simp only [Act.put, List.setIfInBounds_toArray, List.set_cons_zero, List.set_cons_succ]
  refine wpAnyH_take (i := 3) (oi := ⟨some 45, _, _, _, _, _⟩) (v := ?_) rfl (by kernel_rfl) (by kernel_rfl) (by kernel_rfl) (fun _ _ _ h => h) (Or.inl ⟨by rfl, ?_⟩) hHeld ?_
  rotate_left
  · intro w' hSw
    go_simp
    first | done | rfl
  try simp only [Act.put, List.setIfInBounds_toArray, List.set_cons_zero, List.set_cons_succ]
  refine wpAnyH_take (i := 4) (oi := ⟨some 46, _, _, _, _, _⟩) (v := ?_) rfl (by kernel_rfl) (by kernel_rfl) (by kernel_rfl) (fun _ _ _ h => h) (Or.inl ⟨by rfl, ?_⟩) hHeld ?_
  rotate_left
  · intro w' hSw
    go_simp
    first | done | rfl
  try simp only [Act.put, List.setIfInBounds_toArray, List.set_cons_zero, List.set_cons_succ]
  refine wpAnyH_take (i := 6) (oi := ⟨some 48, _, _, _, _, _⟩) (v := _) rfl (by kernel_rfl) (by kernel_rfl) (by kernel_rfl) (fun _ _ _ h => h) (yieldsIf_load_mid (by rfl) _ _ rfl _ _ rfl RV _ (fun w' h => HRR.out _ h) Tryd.underlying24 rfl HRI.out) hHeld ?_
  try simp only [Act.put, List.setIfInBounds_toArray, List.set_cons_zero, List.set_cons_succ]
  refine wpAnyH_ready (rs := [5]) (by kernel_rfl) (by simp) ?_
  refine AllReadyH.cons (o := ⟨some 47, _, _, _, _, _⟩) rfl (fun K hK => ?_) AllReadyH.nil
  go_simp
  refine (HCL.out _ hHeld).mono ?_
  rintro e v5 ⟨rfl, hk5⟩
  have hq5 := hHeld.trans hk5 (fun _ _ h => h)
  refine hK.out _ _ hq5 (fun hHeld => ?_)
  clear hK K
  try simp only [Act.put, List.setIfInBounds_toArray, List.set_cons_zero, List.set_cons_succ]
  refine wpAnyH_take (i := 7) (oi := ⟨some 49, _, _, _, _, _⟩) (v := ?_) rfl (by kernel_rfl) (by kernel_rfl) (by kernel_rfl) (fun _ _ _ h => h) (Or.inl ⟨by rfl, ?_⟩) hHeld ?_
  rotate_left
  · intro w' hSw
    have cv := HEQ.out w'
    go_simp
    first | done | rfl
  try simp only [Act.put, List.setIfInBounds_toArray, List.set_cons_zero, List.set_cons_succ]
  refine wpAnyH_done (by kernel_rfl) ?_ _
  go_wp2
  go_ret
  exact ⟨rfl, HKW.out.trans hq5 (fun _ _ h => h)⟩
set_option maxRecDepth 100000 in
set_option maxHeartbeats 8000000 in
theorem cgrow_known_f (w : World) (hG : Glob w) (old root : List Int) (hold : IsDig old) (hroot : IsDig root) (m n : Nat) (hn : n ≤ 9007199254740991) (hm0 : 0 < m) (hmn : m ≤ n) (A : Option Addr) (c : Nat) (ps : List (List Int)) (hkn : (gwayF m n true).2 = true)
    (hr : RdD w A (gwayF m n true).1.length ps) (a b : List Int) (ha : IsDig a) (hb : IsDig b) (hne : a ≠ old) (hres : climbF joinT2 ofT2 aheadT2 (old ++ old) (gwayF m n true).1 ps = a ++ b) :
    Calls Tryd.prog 30 #[.int .i64 m, .agg (vb old).toArray, .int .i64 n, .agg (vb root).toArray, .slice A (gwayF m n true).1.length c] w fun e w' => e = .returned (errno 271) ∧ Keeps (fun _ => False) w w' := by
  have hwl := gway_short m n 53 true (by omega)
  obtain ⟨OV, hOV⟩ : ∃ V, V = vb old := ⟨_, rfl⟩
  obtain ⟨RV, hRV⟩ : ∃ V, V = vb root := ⟨_, rfl⟩
  obtain ⟨TV, hTV⟩ : ∃ V, V = vb (old ++ root) := ⟨_, rfl⟩
  have HOL : Hid (OV.length = 32) := Lib.hid (by rw [hOV, vb_length]; exact hold.1)
  have HRL : Hid (RV.length = 32) := Lib.hid (by rw [hRV, vb_length]; exact hroot.1)
  have HO1 : Hid (∀ u ∈ OV, u.oneCell' = true) := Lib.hid (by rw [hOV]; exact vb_one _)
  have HOI : Hid ((Tryd.prog.info? 24).map (·.size) = some OV.length) := Lib.hid (by rw [HOL.out]; kernel_rfl)
  have HRI : Hid ((Tryd.prog.info? 24).map (·.size) = some RV.length) := Lib.hid (by rw [HRL.out]; kernel_rfl)
  have ht1 : List.take 32 TV = vb old := by rw [hTV, vb_app, ← hold.1, ← vb_length old, List.take_left' rfl]
  have ht2 : List.take 32 (List.drop 32 TV) = vb root := by
    rw [hTV, vb_app, ← hold.1, ← vb_length old, List.drop_left' rfl, List.take_of_length_le (by rw [vb_length, vb_length, hroot.1, hold.1]; omega)]
  obtain ⟨UV, hUV⟩ : ∃ V, V = vb (a ++ b) := ⟨_, rfl⟩
  have hu1 : List.take 32 UV = vb a := by rw [hUV, vb_app, ← ha.1, ← vb_length a, List.take_left' rfl]
  have hu2 : List.take 32 (List.drop 32 UV) = vb b := by
    rw [hUV, vb_app, ← ha.1, ← vb_length a, List.drop_left' rfl, List.take_of_length_le (by rw [vb_length, vb_length, hb.1, ha.1]; omega)]
  have HE1 : Hid (∀ W, (Op.equalIn 9999 24 (.agg (List.take 32 UV).toArray) (.agg (List.take 32 TV).toArray)).run Tryd.prog W = .ok false W) := Lib.hid fun W => by rw [ht1, hu1, dig_inD _ _ ha.1 hold.1 W, decide_eq_false hne]
  have HE2 : Hid (∀ W, (Op.equalIn 9999 24 (.agg (List.take 32 (List.drop 32 UV)).toArray) (.agg (List.take 32 (List.drop 32 TV)).toArray)).run Tryd.prog W = .ok (decide (b = root)) W) := Lib.hid fun W => by rw [ht2, hu2, dig_inD _ _ hb.1 hroot.1 W]
  clear ht1 ht2 hu1 hu2
  obtain ⟨SV, hSV⟩ : ∃ V, V = vb (old ++ old) := ⟨_, rfl⟩
  have ha1 := build_lo old hold.1
  have ha2 := build_hi old old hold.1 hold.1
  have hc1 := build_lo old hold.1
  have hc2 := build_hi old root hold.1 hroot.1
  rw [← hSV, ← hOV] at ha2
  rw [← hOV] at ha1
  rw [← hOV] at hc1
  rw [← hOV, ← hRV, ← hTV] at hc2
  obtain ⟨M1, hM1⟩ : ∃ M, M = (OV ++ vb (List.replicate 32 0)).toArray := ⟨_, rfl⟩
  obtain ⟨M2, hM2⟩ : ∃ M, M = (OV ++ vb (List.replicate 32 0)).toArray := ⟨_, rfl⟩
  have HAs : Hid (M1.size = 64) := Lib.hid (by rw [hM1]; simp [HOL.out, vb])
  have HCs : Hid (M2.size = 64) := Lib.hid (by rw [hM2]; simp [HOL.out, vb])
  rw [← hM1] at ha1 ha2
  rw [← hM2] at hc1 hc2
  have HA1 := Lib.hid ha1
  have HA2 := Lib.hid ha2
  have HC1 := Lib.hid hc1
  have HC2 := Lib.hid hc2
  obtain ⟨FV, hFV⟩ : ∃ V, V = OV := ⟨_, rfl⟩
  have HFL : Hid (FV.length = 32) := Lib.hid (by rw [hFV]; exact HOL.out)
  have HFI : Hid ((Tryd.prog.info? 24).map (·.size) = some FV.length) := Lib.hid (by rw [HFL.out]; kernel_rfl)
  rw [← hFV] at HA1 HA2
  obtain ⟨W2, hW2⟩ : ∃ W2, W2 = (w.alloc (.cells OV.toArray 24)).alloc (.cells RV.toArray 24) := ⟨_, rfl⟩
  have hk2 : Keeps (fun _ => False) w W2 := by rw [hW2]; exact ((Keeps.refl _ w).alloc _).alloc _
  have HB1 : Hid (Blk W2 w.heap.size 24 OV) := Lib.hid (by rw [hW2]; exact (Blk.new w _ _).alloc _)
  have HB2 : Hid (Blk W2 (w.heap.size + 1) 24 RV) := Lib.hid (by
    have h5 := Blk.new (w.alloc (.cells OV.toArray 24)) 24 RV
    rw [World.size_alloc] at h5
    rw [hW2]; exact h5)
  have HK2 := Lib.hid hk2
  have HWY := Lib.hid (gway_any n m true W2 (by omega) hm0 hmn)
  rw [hkn] at HWY
  obtain ⟨way, hway⟩ : ∃ way, way = (gwayF m n true).1 := ⟨_, rfl⟩
  rw [← hway] at hr hres HWY hwl ⊢
  obtain ⟨K, hK⟩ : ∃ K, K = way.length := ⟨_, rfl⟩
  rw [← hK] at hr HWY hwl ⊢
  have HCLG : Hid (∀ W Aw cw, Keeps (fun _ => False) w W → Rd W Aw K (vbool way) → Calls Tryd.prog 60 #[.agg SV.toArray, .slice Aw K cw, .slice A K c, .func (.func 57) #[] #[], .func (.func 58) #[] #[], .func (.func 59) #[] #[]] W fun e w' => e = .returned (.agg UV.toArray) ∧ Keeps (fun _ => False) W w') := Lib.hid fun W Aw cw hW hrw => by
    rw [hSV, hUV, ← hres]
    exact climbT W (hG.keep hW (fun _ h => h.elim)) (old ++ old) ⟨by rw [List.length_append, hold.1], bytes_appB hold.2 hold.2⟩ Aw K cw way hK.symm hrw A c ps (hr.keep hW (no_out _ _)) (by omega)
  rw [← hOV, ← hRV]
  rw [hW2] at HB1 HB2 HK2 HWY
  have n1 : ¬ (n : Int) < 0 := by omega
  have n2 : ¬ (9007199254740991 : Int) < (n : Int) := by omega
  have n3 : ¬ (m : Int) < 0 := by omega
  have n4 : ¬ (n : Int) < (m : Int) := by omega
  have n5 : (0 : Int) < (m : Int) := by omega
  have n6 : ((m : Int) == 0) = false := by simp; omega
  have w9 : IntKind.i64.wrap ((K : Int) + 1) = (K : Int) + 1 := IntWalk.i64_in _ (by omega)
  have HZF := Lib.hid fun W => Blk.new W 24 (List.replicate 32 (Value.int .u8 0))
  have HFVE := Lib.hid hFV
  clear hway hK hres hne hUV hb ha hOV hRV hTV hSV hW2 hk2 hr hold hroot hG ha1 ha2 hc1 hc2 hM1 hM2 hkn hFV
  go_enter Tryd.func30, Tryd.ntmps30
  go_wp2_with (first
    | (go_at_call 56; refine HWY.out.mono ?_; rintro e w3 ⟨Aw, cw, rfl, hmw⟩; have hk3 := HK2.out.trans hmw.2.1 (fun _ _ h => h); have HKW := Lib.hid hk3; have HB31 := Lib.hid (hmw.2.1.blk HB1.out (fun h => h)); have HB32 := Lib.hid (hmw.2.1.blk HB2.out (fun h => h)); have HRW := Lib.hid (Rd.of_own hmw.1); clear hk3 hmw)
    | ((with_reducible show wpList _ _ _ (⟨some 70, Op.load 24 _, _, _, _, _⟩ :: _) _ _); refine wpList_load_whole rfl 24 _ rfl _ rfl HB31.out Tryd.underlying24 rfl HOI.out ?_)
    | ((with_reducible show wpList _ _ _ (⟨none, Op.store 24 _ _, _, _, _, _⟩ :: _) _ _); refine wpList_store_whole rfl 24 _ _ rfl OV rfl rfl (HZF.out w3) (by rw [HOL.out]; simp) HOI.out HO1.out ?_; refine gen_world (fun W => Blk W w.heap.size 24 OV ∧ Blk W (w.heap.size + 1) 24 RV ∧ Blk W w3.heap.size 24 OV ∧ Keeps (fun _ => False) w3 W) ⟨(HB31.out.alloc _).setRow_far (by have := HB31.out.lt; omega) _, (HB32.out.alloc _).setRow_far (by have := HB32.out.lt; omega) _, (HZF.out w3).setRow OV, ((Keeps.refl _ w3).alloc _).setRow (.inr (Nat.le_refl _)) _⟩ ?_; rintro w4 ⟨hb41, hb42, hb4f, hk4⟩; have HB41 := Lib.hid hb41; have HB42 := Lib.hid hb42; have HB4F := Lib.hid hb4f; have HK4 := Lib.hid hk4; clear hb41 hb42 hb4f hk4))
  obtain ⟨w5, hw5⟩ : ∃ w5, w5 = w4 := ⟨_, rfl⟩
  rw [← hw5]
  have HB51 : Hid (Blk w5 w.heap.size 24 OV) := Lib.hid (by rw [hw5]; exact HB41.out)
  have HB52 : Hid (Blk w5 (w.heap.size + 1) 24 RV) := Lib.hid (by rw [hw5]; exact HB42.out)
  have HB5F : Hid (Blk w5 w3.heap.size 24 FV) := Lib.hid (by rw [hw5, HFVE.out]; exact HB4F.out)
  have HK5 : Hid (Keeps (fun _ => False) w3 w5) := Lib.hid (by rw [hw5]; exact HK4.out)
  have HCL : Hid (∀ W, Keeps (fun _ => False) w5 W → _) := Lib.hid (fun W hW => HCLG.out W Aw cw ((HKW.out.trans HK5.out (fun _ _ h => h)).trans hW (fun _ _ h => h)) (HRW.out.keep (HK5.out.trans hW (fun _ _ h => h)) (no_out _ _)))
  clear hw5
  have HRF : Hid (∀ W, Keeps (fun _ => False) w5 W → W.rangeAt w3.heap.size 0 FV) := Lib.hid fun W hW j v hv => by rw [Nat.zero_add, (hW.blk HB5F.out (fun h => h)).cell, hv]
  have HRO : Hid (∀ W, Keeps (fun _ => False) w5 W → W.rangeAt w.heap.size 0 OV) := Lib.hid fun W hW j v hv => by rw [Nat.zero_add, (hW.blk HB51.out (fun h => h)).cell, hv]
  have HRR : Hid (∀ W, Keeps (fun _ => False) w5 W → W.rangeAt (w.heap.size + 1) 0 RV) := Lib.hid fun W hW j v hv => by rw [Nat.zero_add, (hW.blk HB52.out (fun h => h)).cell, hv]
  refine wp_region_held_drew (S := Keeps (fun _ => False) w5) (by kernel_rfl) (Keeps.refl (fun _ => False) _).drew (fun hHeld => ?_)
  refine wpAnyH_take (i := 0) (oi := ⟨some 78, _, _, _, _, _⟩) (v := _) rfl (by kernel_rfl) (by kernel_rfl) (by kernel_rfl) (fun _ _ _ h => h) (yieldsIf_load_mid (by rfl) _ _ rfl _ _ rfl FV _ (fun w' h => HRF.out _ h) Tryd.underlying24 rfl HFI.out) hHeld ?_
  try simp only [Act.put, List.setIfInBounds_toArray, List.set_cons_zero, List.set_cons_succ]
  refine wpAnyH_take (i := 1) (oi := ⟨some 79, _, _, _, _, _⟩) (v := _) rfl (by kernel_rfl) (by kernel_rfl) (by kernel_rfl) (fun _ _ _ h => h) (yieldsIf_load_mid (by rfl) _ _ rfl _ _ rfl FV _ (fun w' h => HRF.out _ h) Tryd.underlying24 rfl HFI.out) hHeld ?_
  try simp only [Act.put, List.setIfInBounds_toArray, List.set_cons_zero, List.set_cons_succ]
  refine wpAnyH_take (i := 2) (oi := ⟨some 80, _, _, _, _, _⟩) (v := ?_) rfl (by kernel_rfl) (by kernel_rfl) (by kernel_rfl) (fun _ _ _ h => h) (Or.inl ⟨by rfl, ?_⟩) hHeld ?_
  rotate_left
  · intro w' hSw
    have cv1 := HA1.out; have cv2 := HA2.out; have cv3 := HFL.out; have cv5 := HAs.out
    go_simp
    first | done | rfl
  try simp only [Act.put, List.setIfInBounds_toArray, List.set_cons_zero, List.set_cons_succ]
  refine wpAnyH_take (i := 3) (oi := ⟨some 81, _, _, _, _, _⟩) (v := ?_) rfl (by kernel_rfl) (by kernel_rfl) (by kernel_rfl) (fun _ _ _ h => h) (Or.inl ⟨by rfl, ?_⟩) hHeld ?_
  rotate_left
  · intro w' hSw
    go_simp
    first | done | rfl
  try simp only [Act.put, List.setIfInBounds_toArray, List.set_cons_zero, List.set_cons_succ]
  refine wpAnyH_take (i := 4) (oi := ⟨some 82, _, _, _, _, _⟩) (v := ?_) rfl (by kernel_rfl) (by kernel_rfl) (by kernel_rfl) (fun _ _ _ h => h) (Or.inl ⟨by rfl, ?_⟩) hHeld ?_
  rotate_left
  · intro w' hSw
    go_simp
    first | done | rfl
  try simp only [Act.put, List.setIfInBounds_toArray, List.set_cons_zero, List.set_cons_succ]
  refine wpAnyH_take (i := 5) (oi := ⟨some 83, _, _, _, _, _⟩) (v := ?_) rfl (by kernel_rfl) (by kernel_rfl) (by kernel_rfl) (fun _ _ _ h => h) (Or.inl ⟨by rfl, ?_⟩) hHeld ?_
  rotate_left
  · intro w' hSw
    go_simp
    first | done | rfl
  try simp only [Act.put, List.setIfInBounds_toArray, List.set_cons_zero, List.set_cons_succ]
  refine wpAnyH_take (i := 6) (oi := ⟨some 84, _, _, _, _, _⟩) (v := ?_) rfl (by kernel_rfl) (by kernel_rfl) (by kernel_rfl) (fun _ _ _ h => h) (Or.inl ⟨by rfl, ?_⟩) hHeld ?_
  rotate_left
  · intro w' hSw
    go_simp
    first | done | rfl
  try simp only [Act.put, List.setIfInBounds_toArray, List.set_cons_zero, List.set_cons_succ]
  refine wpAnyH_take (i := 7) (oi := ⟨some 85, _, _, _, _, _⟩) (v := ?_) rfl (by kernel_rfl) (by kernel_rfl) (by kernel_rfl) (fun _ _ _ h => h) (Or.inl ⟨by rfl, ?_⟩) hHeld ?_
  rotate_left
  · intro w' hSw
    go_simp
    first | done | rfl
  try simp only [Act.put, List.setIfInBounds_toArray, List.set_cons_zero, List.set_cons_succ]
  refine wpAnyH_take (i := 9) (oi := ⟨some 87, _, _, _, _, _⟩) (v := _) rfl (by kernel_rfl) (by kernel_rfl) (by kernel_rfl) (fun _ _ _ h => h) (yieldsIf_load_mid (by rfl) _ _ rfl _ _ rfl OV _ (fun w' h => HRO.out _ h) Tryd.underlying24 rfl HOI.out) hHeld ?_
  try simp only [Act.put, List.setIfInBounds_toArray, List.set_cons_zero, List.set_cons_succ]
  refine wpAnyH_take (i := 10) (oi := ⟨some 88, _, _, _, _, _⟩) (v := _) rfl (by kernel_rfl) (by kernel_rfl) (by kernel_rfl) (fun _ _ _ h => h) (yieldsIf_load_mid (by rfl) _ _ rfl _ _ rfl RV _ (fun w' h => HRR.out _ h) Tryd.underlying24 rfl HRI.out) hHeld ?_
  try simp only [Act.put, List.setIfInBounds_toArray, List.set_cons_zero, List.set_cons_succ]
  refine wpAnyH_take (i := 11) (oi := ⟨some 89, _, _, _, _, _⟩) (v := ?_) rfl (by kernel_rfl) (by kernel_rfl) (by kernel_rfl) (fun _ _ _ h => h) (Or.inl ⟨by rfl, ?_⟩) hHeld ?_
  rotate_left
  · intro w' hSw
    have cv1 := HC1.out; have cv2 := HC2.out; have cv3 := HOL.out; have cv4 := HRL.out; have cv5 := HCs.out
    go_simp
    first | done | rfl
  try simp only [Act.put, List.setIfInBounds_toArray, List.set_cons_zero, List.set_cons_succ]
  refine wpAnyH_ready (rs := [8]) (by kernel_rfl) (by simp) ?_
  refine AllReadyH.cons (o := ⟨some 86, _, _, _, _, _⟩) rfl (fun K hK => ?_) AllReadyH.nil
  go_simp
  refine (HCL.out _ hHeld).mono ?_
  rintro e v8 ⟨rfl, hk8⟩
  have hq8 := hHeld.trans hk8 (fun _ _ h => h)
  refine hK.out _ _ hq8 (fun hHeld => ?_)
  clear hK K
  try simp only [Act.put, List.setIfInBounds_toArray, List.set_cons_zero, List.set_cons_succ]
  refine wpAnyH_take (i := 12) (oi := ⟨some 90, _, _, _, _, _⟩) (v := ?_) rfl (by kernel_rfl) (by kernel_rfl) (by kernel_rfl) (fun _ _ _ h => h) (Or.inl ⟨by rfl, ?_⟩) hHeld ?_
  rotate_left
  · intro w' hSw
    have cv1 := HE1.out w'; have cv2 := HE2.out w'
    go_simp
    first | done | rfl
  try simp only [Act.put, List.setIfInBounds_toArray, List.set_cons_zero, List.set_cons_succ]
  refine wpAnyH_done (by kernel_rfl) ?_ _
  go_wp2
  go_ret
  exact ⟨rfl, (HKW.out.trans HK5.out (fun _ _ h => h)).trans hq8 (fun _ _ h => h)⟩
set_option maxRecDepth 100000 in
set_option maxHeartbeats 8000000 in
theorem cgrow_known_tf (w : World) (hG : Glob w) (old root : List Int) (hold : IsDig old) (hroot : IsDig root) (m n : Nat) (hn : n ≤ 9007199254740991) (hm0 : 0 < m) (hmn : m ≤ n) (A : Option Addr) (c : Nat) (ps : List (List Int)) (hkn : (gwayF m n true).2 = true)
    (hr : RdD w A (gwayF m n true).1.length ps) (b : List Int) (hb : IsDig b) (hne : b ≠ root) (hres : climbF joinT2 ofT2 aheadT2 (old ++ old) (gwayF m n true).1 ps = old ++ b) :
    Calls Tryd.prog 30 #[.int .i64 m, .agg (vb old).toArray, .int .i64 n, .agg (vb root).toArray, .slice A (gwayF m n true).1.length c] w fun e w' => e = .returned (errno 271) ∧ Keeps (fun _ => False) w w' := by
  have hwl := gway_short m n 53 true (by omega)
  obtain ⟨OV, hOV⟩ : ∃ V, V = vb old := ⟨_, rfl⟩
  obtain ⟨RV, hRV⟩ : ∃ V, V = vb root := ⟨_, rfl⟩
  obtain ⟨TV, hTV⟩ : ∃ V, V = vb (old ++ root) := ⟨_, rfl⟩
  have HOL : Hid (OV.length = 32) := Lib.hid (by rw [hOV, vb_length]; exact hold.1)
  have HRL : Hid (RV.length = 32) := Lib.hid (by rw [hRV, vb_length]; exact hroot.1)
  have HO1 : Hid (∀ u ∈ OV, u.oneCell' = true) := Lib.hid (by rw [hOV]; exact vb_one _)
  have HOI : Hid ((Tryd.prog.info? 24).map (·.size) = some OV.length) := Lib.hid (by rw [HOL.out]; kernel_rfl)
  have HRI : Hid ((Tryd.prog.info? 24).map (·.size) = some RV.length) := Lib.hid (by rw [HRL.out]; kernel_rfl)
  have ht1 : List.take 32 TV = vb old := by rw [hTV, vb_app, ← hold.1, ← vb_length old, List.take_left' rfl]
  have ht2 : List.take 32 (List.drop 32 TV) = vb root := by
    rw [hTV, vb_app, ← hold.1, ← vb_length old, List.drop_left' rfl, List.take_of_length_le (by rw [vb_length, vb_length, hroot.1, hold.1]; omega)]
  obtain ⟨UV, hUV⟩ : ∃ V, V = vb (old ++ b) := ⟨_, rfl⟩
  have hu1 : List.take 32 UV = vb old := by rw [hUV, vb_app, ← hold.1, ← vb_length old, List.take_left' rfl]
  have hu2 : List.take 32 (List.drop 32 UV) = vb b := by
    rw [hUV, vb_app, ← hold.1, ← vb_length old, List.drop_left' rfl, List.take_of_length_le (by rw [vb_length, vb_length, hb.1, hold.1]; omega)]
  have HE1 : Hid (∀ W, (Op.equalIn 9999 24 (.agg (List.take 32 UV).toArray) (.agg (List.take 32 TV).toArray)).run Tryd.prog W = .ok true W) := Lib.hid fun W => by rw [ht1, hu1, dig_inD _ _ hold.1 hold.1 W, decide_eq_true rfl]
  have HE2 : Hid (∀ W, (Op.equalIn 9999 24 (.agg (List.take 32 (List.drop 32 UV)).toArray) (.agg (List.take 32 (List.drop 32 TV)).toArray)).run Tryd.prog W = .ok false W) := Lib.hid fun W => by rw [ht2, hu2, dig_inD _ _ hb.1 hroot.1 W, decide_eq_false hne]
  clear ht1 ht2 hu1 hu2
  obtain ⟨SV, hSV⟩ : ∃ V, V = vb (old ++ old) := ⟨_, rfl⟩
  have ha1 := build_lo old hold.1
  have ha2 := build_hi old old hold.1 hold.1
  have hc1 := build_lo old hold.1
  have hc2 := build_hi old root hold.1 hroot.1
  rw [← hSV, ← hOV] at ha2
  rw [← hOV] at ha1
  rw [← hOV] at hc1
  rw [← hOV, ← hRV, ← hTV] at hc2
  obtain ⟨M1, hM1⟩ : ∃ M, M = (OV ++ vb (List.replicate 32 0)).toArray := ⟨_, rfl⟩
  obtain ⟨M2, hM2⟩ : ∃ M, M = (OV ++ vb (List.replicate 32 0)).toArray := ⟨_, rfl⟩
  have HAs : Hid (M1.size = 64) := Lib.hid (by rw [hM1]; simp [HOL.out, vb])
  have HCs : Hid (M2.size = 64) := Lib.hid (by rw [hM2]; simp [HOL.out, vb])
  rw [← hM1] at ha1 ha2
  rw [← hM2] at hc1 hc2
  have HA1 := Lib.hid ha1
  have HA2 := Lib.hid ha2
  have HC1 := Lib.hid hc1
  have HC2 := Lib.hid hc2
  obtain ⟨FV, hFV⟩ : ∃ V, V = OV := ⟨_, rfl⟩
  have HFL : Hid (FV.length = 32) := Lib.hid (by rw [hFV]; exact HOL.out)
  have HFI : Hid ((Tryd.prog.info? 24).map (·.size) = some FV.length) := Lib.hid (by rw [HFL.out]; kernel_rfl)
  rw [← hFV] at HA1 HA2
  obtain ⟨W2, hW2⟩ : ∃ W2, W2 = (w.alloc (.cells OV.toArray 24)).alloc (.cells RV.toArray 24) := ⟨_, rfl⟩
  have hk2 : Keeps (fun _ => False) w W2 := by rw [hW2]; exact ((Keeps.refl _ w).alloc _).alloc _
  have HB1 : Hid (Blk W2 w.heap.size 24 OV) := Lib.hid (by rw [hW2]; exact (Blk.new w _ _).alloc _)
  have HB2 : Hid (Blk W2 (w.heap.size + 1) 24 RV) := Lib.hid (by
    have h5 := Blk.new (w.alloc (.cells OV.toArray 24)) 24 RV
    rw [World.size_alloc] at h5
    rw [hW2]; exact h5)
  have HK2 := Lib.hid hk2
  have HWY := Lib.hid (gway_any n m true W2 (by omega) hm0 hmn)
  rw [hkn] at HWY
  obtain ⟨way, hway⟩ : ∃ way, way = (gwayF m n true).1 := ⟨_, rfl⟩
  rw [← hway] at hr hres HWY hwl ⊢
  obtain ⟨K, hK⟩ : ∃ K, K = way.length := ⟨_, rfl⟩
  rw [← hK] at hr HWY hwl ⊢
  have HCLG : Hid (∀ W Aw cw, Keeps (fun _ => False) w W → Rd W Aw K (vbool way) → Calls Tryd.prog 60 #[.agg SV.toArray, .slice Aw K cw, .slice A K c, .func (.func 57) #[] #[], .func (.func 58) #[] #[], .func (.func 59) #[] #[]] W fun e w' => e = .returned (.agg UV.toArray) ∧ Keeps (fun _ => False) W w') := Lib.hid fun W Aw cw hW hrw => by
    rw [hSV, hUV, ← hres]
    exact climbT W (hG.keep hW (fun _ h => h.elim)) (old ++ old) ⟨by rw [List.length_append, hold.1], bytes_appB hold.2 hold.2⟩ Aw K cw way hK.symm hrw A c ps (hr.keep hW (no_out _ _)) (by omega)
  rw [← hOV, ← hRV]
  rw [hW2] at HB1 HB2 HK2 HWY
  have n1 : ¬ (n : Int) < 0 := by omega
  have n2 : ¬ (9007199254740991 : Int) < (n : Int) := by omega
  have n3 : ¬ (m : Int) < 0 := by omega
  have n4 : ¬ (n : Int) < (m : Int) := by omega
  have n5 : (0 : Int) < (m : Int) := by omega
  have n6 : ((m : Int) == 0) = false := by simp; omega
  have w9 : IntKind.i64.wrap ((K : Int) + 1) = (K : Int) + 1 := IntWalk.i64_in _ (by omega)
  have HZF := Lib.hid fun W => Blk.new W 24 (List.replicate 32 (Value.int .u8 0))
  have HFVE := Lib.hid hFV
  clear hway hK hres hne hUV hb hOV hRV hTV hSV hW2 hk2 hr hold hroot hG ha1 ha2 hc1 hc2 hM1 hM2 hkn hFV
  go_enter Tryd.func30, Tryd.ntmps30
  go_wp2_with (first
    | (go_at_call 56; refine HWY.out.mono ?_; rintro e w3 ⟨Aw, cw, rfl, hmw⟩; have hk3 := HK2.out.trans hmw.2.1 (fun _ _ h => h); have HKW := Lib.hid hk3; have HB31 := Lib.hid (hmw.2.1.blk HB1.out (fun h => h)); have HB32 := Lib.hid (hmw.2.1.blk HB2.out (fun h => h)); have HRW := Lib.hid (Rd.of_own hmw.1); clear hk3 hmw)
    | ((with_reducible show wpList _ _ _ (⟨some 70, Op.load 24 _, _, _, _, _⟩ :: _) _ _); refine wpList_load_whole rfl 24 _ rfl _ rfl HB31.out Tryd.underlying24 rfl HOI.out ?_)
    | ((with_reducible show wpList _ _ _ (⟨none, Op.store 24 _ _, _, _, _, _⟩ :: _) _ _); refine wpList_store_whole rfl 24 _ _ rfl OV rfl rfl (HZF.out w3) (by rw [HOL.out]; simp) HOI.out HO1.out ?_; refine gen_world (fun W => Blk W w.heap.size 24 OV ∧ Blk W (w.heap.size + 1) 24 RV ∧ Blk W w3.heap.size 24 OV ∧ Keeps (fun _ => False) w3 W) ⟨(HB31.out.alloc _).setRow_far (by have := HB31.out.lt; omega) _, (HB32.out.alloc _).setRow_far (by have := HB32.out.lt; omega) _, (HZF.out w3).setRow OV, ((Keeps.refl _ w3).alloc _).setRow (.inr (Nat.le_refl _)) _⟩ ?_; rintro w4 ⟨hb41, hb42, hb4f, hk4⟩; have HB41 := Lib.hid hb41; have HB42 := Lib.hid hb42; have HB4F := Lib.hid hb4f; have HK4 := Lib.hid hk4; clear hb41 hb42 hb4f hk4))
  obtain ⟨w5, hw5⟩ : ∃ w5, w5 = w4 := ⟨_, rfl⟩
  rw [← hw5]
  have HB51 : Hid (Blk w5 w.heap.size 24 OV) := Lib.hid (by rw [hw5]; exact HB41.out)
  have HB52 : Hid (Blk w5 (w.heap.size + 1) 24 RV) := Lib.hid (by rw [hw5]; exact HB42.out)
  have HB5F : Hid (Blk w5 w3.heap.size 24 FV) := Lib.hid (by rw [hw5, HFVE.out]; exact HB4F.out)
  have HK5 : Hid (Keeps (fun _ => False) w3 w5) := Lib.hid (by rw [hw5]; exact HK4.out)
  have HCL : Hid (∀ W, Keeps (fun _ => False) w5 W → _) := Lib.hid (fun W hW => HCLG.out W Aw cw ((HKW.out.trans HK5.out (fun _ _ h => h)).trans hW (fun _ _ h => h)) (HRW.out.keep (HK5.out.trans hW (fun _ _ h => h)) (no_out _ _)))
  clear hw5
  have HRF : Hid (∀ W, Keeps (fun _ => False) w5 W → W.rangeAt w3.heap.size 0 FV) := Lib.hid fun W hW j v hv => by rw [Nat.zero_add, (hW.blk HB5F.out (fun h => h)).cell, hv]
  have HRO : Hid (∀ W, Keeps (fun _ => False) w5 W → W.rangeAt w.heap.size 0 OV) := Lib.hid fun W hW j v hv => by rw [Nat.zero_add, (hW.blk HB51.out (fun h => h)).cell, hv]
  have HRR : Hid (∀ W, Keeps (fun _ => False) w5 W → W.rangeAt (w.heap.size + 1) 0 RV) := Lib.hid fun W hW j v hv => by rw [Nat.zero_add, (hW.blk HB52.out (fun h => h)).cell, hv]
  refine wp_region_held_drew (S := Keeps (fun _ => False) w5) (by kernel_rfl) (Keeps.refl (fun _ => False) _).drew (fun hHeld => ?_)
  refine wpAnyH_take (i := 0) (oi := ⟨some 78, _, _, _, _, _⟩) (v := _) rfl (by kernel_rfl) (by kernel_rfl) (by kernel_rfl) (fun _ _ _ h => h) (yieldsIf_load_mid (by rfl) _ _ rfl _ _ rfl FV _ (fun w' h => HRF.out _ h) Tryd.underlying24 rfl HFI.out) hHeld ?_
  try simp only [Act.put, List.setIfInBounds_toArray, List.set_cons_zero, List.set_cons_succ]
  refine wpAnyH_take (i := 1) (oi := ⟨some 79, _, _, _, _, _⟩) (v := _) rfl (by kernel_rfl) (by kernel_rfl) (by kernel_rfl) (fun _ _ _ h => h) (yieldsIf_load_mid (by rfl) _ _ rfl _ _ rfl FV _ (fun w' h => HRF.out _ h) Tryd.underlying24 rfl HFI.out) hHeld ?_
  try simp only [Act.put, List.setIfInBounds_toArray, List.set_cons_zero, List.set_cons_succ]
  refine wpAnyH_take (i := 2) (oi := ⟨some 80, _, _, _, _, _⟩) (v := ?_) rfl (by kernel_rfl) (by kernel_rfl) (by kernel_rfl) (fun _ _ _ h => h) (Or.inl ⟨by rfl, ?_⟩) hHeld ?_
  rotate_left
  · intro w' hSw
    have cv1 := HA1.out; have cv2 := HA2.out; have cv3 := HFL.out; have cv5 := HAs.out
    go_simp
    first | done | rfl
  try simp only [Act.put, List.setIfInBounds_toArray, List.set_cons_zero, List.set_cons_succ]
  refine wpAnyH_take (i := 3) (oi := ⟨some 81, _, _, _, _, _⟩) (v := ?_) rfl (by kernel_rfl) (by kernel_rfl) (by kernel_rfl) (fun _ _ _ h => h) (Or.inl ⟨by rfl, ?_⟩) hHeld ?_
  rotate_left
  · intro w' hSw
    go_simp
    first | done | rfl
  try simp only [Act.put, List.setIfInBounds_toArray, List.set_cons_zero, List.set_cons_succ]
  refine wpAnyH_take (i := 4) (oi := ⟨some 82, _, _, _, _, _⟩) (v := ?_) rfl (by kernel_rfl) (by kernel_rfl) (by kernel_rfl) (fun _ _ _ h => h) (Or.inl ⟨by rfl, ?_⟩) hHeld ?_
  rotate_left
  · intro w' hSw
    go_simp
    first | done | rfl
  try simp only [Act.put, List.setIfInBounds_toArray, List.set_cons_zero, List.set_cons_succ]
  refine wpAnyH_take (i := 5) (oi := ⟨some 83, _, _, _, _, _⟩) (v := ?_) rfl (by kernel_rfl) (by kernel_rfl) (by kernel_rfl) (fun _ _ _ h => h) (Or.inl ⟨by rfl, ?_⟩) hHeld ?_
  rotate_left
  · intro w' hSw
    go_simp
    first | done | rfl
  try simp only [Act.put, List.setIfInBounds_toArray, List.set_cons_zero, List.set_cons_succ]
  refine wpAnyH_take (i := 6) (oi := ⟨some 84, _, _, _, _, _⟩) (v := ?_) rfl (by kernel_rfl) (by kernel_rfl) (by kernel_rfl) (fun _ _ _ h => h) (Or.inl ⟨by rfl, ?_⟩) hHeld ?_
  rotate_left
  · intro w' hSw
    go_simp
    first | done | rfl
  try simp only [Act.put, List.setIfInBounds_toArray, List.set_cons_zero, List.set_cons_succ]
  refine wpAnyH_take (i := 7) (oi := ⟨some 85, _, _, _, _, _⟩) (v := ?_) rfl (by kernel_rfl) (by kernel_rfl) (by kernel_rfl) (fun _ _ _ h => h) (Or.inl ⟨by rfl, ?_⟩) hHeld ?_
  rotate_left
  · intro w' hSw
    go_simp
    first | done | rfl
  try simp only [Act.put, List.setIfInBounds_toArray, List.set_cons_zero, List.set_cons_succ]
  refine wpAnyH_take (i := 9) (oi := ⟨some 87, _, _, _, _, _⟩) (v := _) rfl (by kernel_rfl) (by kernel_rfl) (by kernel_rfl) (fun _ _ _ h => h) (yieldsIf_load_mid (by rfl) _ _ rfl _ _ rfl OV _ (fun w' h => HRO.out _ h) Tryd.underlying24 rfl HOI.out) hHeld ?_
  try simp only [Act.put, List.setIfInBounds_toArray, List.set_cons_zero, List.set_cons_succ]
  refine wpAnyH_take (i := 10) (oi := ⟨some 88, _, _, _, _, _⟩) (v := _) rfl (by kernel_rfl) (by kernel_rfl) (by kernel_rfl) (fun _ _ _ h => h) (yieldsIf_load_mid (by rfl) _ _ rfl _ _ rfl RV _ (fun w' h => HRR.out _ h) Tryd.underlying24 rfl HRI.out) hHeld ?_
  try simp only [Act.put, List.setIfInBounds_toArray, List.set_cons_zero, List.set_cons_succ]
  refine wpAnyH_take (i := 11) (oi := ⟨some 89, _, _, _, _, _⟩) (v := ?_) rfl (by kernel_rfl) (by kernel_rfl) (by kernel_rfl) (fun _ _ _ h => h) (Or.inl ⟨by rfl, ?_⟩) hHeld ?_
  rotate_left
  · intro w' hSw
    have cv1 := HC1.out; have cv2 := HC2.out; have cv3 := HOL.out; have cv4 := HRL.out; have cv5 := HCs.out
    go_simp
    first | done | rfl
  try simp only [Act.put, List.setIfInBounds_toArray, List.set_cons_zero, List.set_cons_succ]
  refine wpAnyH_ready (rs := [8]) (by kernel_rfl) (by simp) ?_
  refine AllReadyH.cons (o := ⟨some 86, _, _, _, _, _⟩) rfl (fun K hK => ?_) AllReadyH.nil
  go_simp
  refine (HCL.out _ hHeld).mono ?_
  rintro e v8 ⟨rfl, hk8⟩
  have hq8 := hHeld.trans hk8 (fun _ _ h => h)
  refine hK.out _ _ hq8 (fun hHeld => ?_)
  clear hK K
  try simp only [Act.put, List.setIfInBounds_toArray, List.set_cons_zero, List.set_cons_succ]
  refine wpAnyH_take (i := 12) (oi := ⟨some 90, _, _, _, _, _⟩) (v := ?_) rfl (by kernel_rfl) (by kernel_rfl) (by kernel_rfl) (fun _ _ _ h => h) (Or.inl ⟨by rfl, ?_⟩) hHeld ?_
  rotate_left
  · intro w' hSw
    have cv1 := HE1.out w'; have cv2 := HE2.out w'
    go_simp
    first | done | rfl
  try simp only [Act.put, List.setIfInBounds_toArray, List.set_cons_zero, List.set_cons_succ]
  refine wpAnyH_done (by kernel_rfl) ?_ _
  go_wp2
  go_ret
  exact ⟨rfl, (HKW.out.trans HK5.out (fun _ _ h => h)).trans hq8 (fun _ _ h => h)⟩
set_option maxRecDepth 100000 in
set_option maxHeartbeats 8000000 in
theorem cgrow_new_f (w : World) (hG : Glob w) (old root s : List Int) (hold : IsDig old) (hroot : IsDig root) (hs : IsDig s) (m n : Nat) (hn : n ≤ 9007199254740991) (hm0 : 0 < m) (hmn : m ≤ n) (A : Option Addr) (c : Nat) (ps : List (List Int)) (hkn : (gwayF m n true).2 = false)
    (hr : RdD w A ((gwayF m n true).1.length + 1) (s :: ps)) (hcap : (gwayF m n true).1.length + 1 ≤ c) (a b : List Int) (ha : IsDig a) (hb : IsDig b) (hne : a ≠ old) (hres : climbF joinT2 ofT2 aheadT2 (s ++ s) (gwayF m n true).1 ps = a ++ b) :
    Calls Tryd.prog 30 #[.int .i64 m, .agg (vb old).toArray, .int .i64 n, .agg (vb root).toArray, .slice A ((gwayF m n true).1.length + 1) c] w fun e w' => e = .returned (errno 271) ∧ Keeps (fun _ => False) w w' := by
  have hwl := gway_short m n 53 true (by omega)
  obtain ⟨OV, hOV⟩ : ∃ V, V = vb old := ⟨_, rfl⟩
  obtain ⟨RV, hRV⟩ : ∃ V, V = vb root := ⟨_, rfl⟩
  obtain ⟨TV, hTV⟩ : ∃ V, V = vb (old ++ root) := ⟨_, rfl⟩
  have HOL : Hid (OV.length = 32) := Lib.hid (by rw [hOV, vb_length]; exact hold.1)
  have HRL : Hid (RV.length = 32) := Lib.hid (by rw [hRV, vb_length]; exact hroot.1)
  have HO1 : Hid (∀ u ∈ OV, u.oneCell' = true) := Lib.hid (by rw [hOV]; exact vb_one _)
  have HOI : Hid ((Tryd.prog.info? 24).map (·.size) = some OV.length) := Lib.hid (by rw [HOL.out]; kernel_rfl)
  have HRI : Hid ((Tryd.prog.info? 24).map (·.size) = some RV.length) := Lib.hid (by rw [HRL.out]; kernel_rfl)
  obtain ⟨FV, hFV⟩ : ∃ V, V = vb s := ⟨_, rfl⟩
  have HFL : Hid (FV.length = 32) := Lib.hid (by rw [hFV, vb_length]; exact hs.1)
  have HF1 : Hid (∀ u ∈ FV, u.oneCell' = true) := Lib.hid (by rw [hFV]; exact vb_one _)
  have HFI : Hid ((Tryd.prog.info? 24).map (·.size) = some FV.length) := Lib.hid (by rw [HFL.out]; kernel_rfl)
  have ht1 : List.take 32 TV = vb old := by rw [hTV, vb_app, ← hold.1, ← vb_length old, List.take_left' rfl]
  have ht2 : List.take 32 (List.drop 32 TV) = vb root := by
    rw [hTV, vb_app, ← hold.1, ← vb_length old, List.drop_left' rfl, List.take_of_length_le (by rw [vb_length, vb_length, hroot.1, hold.1]; omega)]
  obtain ⟨UV, hUV⟩ : ∃ V, V = vb (a ++ b) := ⟨_, rfl⟩
  have hu1 : List.take 32 UV = vb a := by rw [hUV, vb_app, ← ha.1, ← vb_length a, List.take_left' rfl]
  have hu2 : List.take 32 (List.drop 32 UV) = vb b := by
    rw [hUV, vb_app, ← ha.1, ← vb_length a, List.drop_left' rfl, List.take_of_length_le (by rw [vb_length, vb_length, hb.1, ha.1]; omega)]
  have HE1 : Hid (∀ W, (Op.equalIn 9999 24 (.agg (List.take 32 UV).toArray) (.agg (List.take 32 TV).toArray)).run Tryd.prog W = .ok false W) := Lib.hid fun W => by rw [ht1, hu1, dig_inD _ _ ha.1 hold.1 W, decide_eq_false hne]
  have HE2 : Hid (∀ W, (Op.equalIn 9999 24 (.agg (List.take 32 (List.drop 32 UV)).toArray) (.agg (List.take 32 (List.drop 32 TV)).toArray)).run Tryd.prog W = .ok (decide (b = root)) W) := Lib.hid fun W => by rw [ht2, hu2, dig_inD _ _ hb.1 hroot.1 W]
  clear ht1 ht2 hu1 hu2
  obtain ⟨SV, hSV⟩ : ∃ V, V = vb (s ++ s) := ⟨_, rfl⟩
  have ha1 := build_lo s hs.1
  have ha2 := build_hi s s hs.1 hs.1
  have hc1 := build_lo old hold.1
  have hc2 := build_hi old root hold.1 hroot.1
  rw [← hSV, ← hFV] at ha2
  rw [← hFV] at ha1
  rw [← hOV] at hc1
  rw [← hOV, ← hRV, ← hTV] at hc2
  obtain ⟨M1, hM1⟩ : ∃ M, M = (FV ++ vb (List.replicate 32 0)).toArray := ⟨_, rfl⟩
  obtain ⟨M2, hM2⟩ : ∃ M, M = (OV ++ vb (List.replicate 32 0)).toArray := ⟨_, rfl⟩
  have HAs : Hid (M1.size = 64) := Lib.hid (by rw [hM1]; simp [HFL.out, vb])
  have HCs : Hid (M2.size = 64) := Lib.hid (by rw [hM2]; simp [HOL.out, vb])
  rw [← hM1] at ha1 ha2
  rw [← hM2] at hc1 hc2
  have HA1 := Lib.hid ha1
  have HA2 := Lib.hid ha2
  have HC1 := Lib.hid hc1
  have HC2 := Lib.hid hc2
  obtain ⟨W2, hW2⟩ : ∃ W2, W2 = (w.alloc (.cells OV.toArray 24)).alloc (.cells RV.toArray 24) := ⟨_, rfl⟩
  have hk2 : Keeps (fun _ => False) w W2 := by rw [hW2]; exact ((Keeps.refl _ w).alloc _).alloc _
  have HB1 : Hid (Blk W2 w.heap.size 24 OV) := Lib.hid (by rw [hW2]; exact (Blk.new w _ _).alloc _)
  have HB2 : Hid (Blk W2 (w.heap.size + 1) 24 RV) := Lib.hid (by
    have h5 := Blk.new (w.alloc (.cells OV.toArray 24)) 24 RV
    rw [World.size_alloc] at h5
    rw [hW2]; exact h5)
  have HK2 := Lib.hid hk2
  have HWY := Lib.hid (gway_any n m true W2 (by omega) hm0 hmn)
  rw [hkn] at HWY
  obtain ⟨way, hway⟩ : ∃ way, way = (gwayF m n true).1 := ⟨_, rfl⟩
  rw [← hway] at hr hres HWY hwl ⊢
  obtain ⟨K, hK⟩ : ∃ K, K = way.length := ⟨_, rfl⟩
  rw [← hK] at hr HWY hwl ⊢
  rw [← hway, ← hK] at hcap
  have HCLG : Hid (∀ W Aw cw, Keeps (fun _ => False) w W → Rd W Aw K (vbool way) → Calls Tryd.prog 60 #[.agg SV.toArray, .slice Aw K cw, .slice (cutD A c 1) K (c - 1), .func (.func 57) #[] #[], .func (.func 58) #[] #[], .func (.func 59) #[] #[]] W fun e w' => e = .returned (.agg UV.toArray) ∧ Keeps (fun _ => False) W w') := Lib.hid fun W Aw cw hW hrw => by
    rw [hSV, hUV, ← hres]
    have hcut := (hr.keep hW (no_out _ _)).cut (k := 1) (c := c) (by omega) (by omega)
    rw [Nat.add_sub_cancel] at hcut
    exact climbT W (hG.keep hW (fun _ h => h.elim)) (s ++ s) ⟨by rw [List.length_append, hs.1], bytes_appB hs.2 hs.2⟩ Aw K cw way hK.symm hrw _ _ ps hcut (by omega)
  have HL00 : Hid (∀ W, Keeps (fun _ => False) w W → ∃ g o, A = some ⟨g, o, none⟩ ∧ Lies W g o FV) := Lib.hid fun W hW => by
    obtain ⟨g, o, d, e, hd, hl⟩ := (hr.keep hW (no_out _ _)).lies (k := 0) (by omega)
    have hde : s = d := by simpa using hd
    subst hde
    rw [Nat.zero_mul, Nat.add_zero] at hl
    exact ⟨g, o, e, by rw [hFV]; exact hl⟩
  have HCUT : Hid (∀ W, (Instr.sliceAt 36 (.slice A (K + 1) c) (some (.int .i64 1)) none none).run Tryd.prog W = .ok (.slice (cutD A c 1) K (c - 1)) W) := Lib.hid fun W => by
    have h9 := cutD_l (P := Tryd.prog) Tryd.underlying36 (by kernel_rfl) A (K + 1) c 1 1 rfl (by omega) W
    rwa [Nat.add_sub_cancel] at h9
  obtain ⟨g0, o0, hA0, _⟩ := HL00.out w (Keeps.refl _ _)
  subst hA0
  rw [← hOV, ← hRV]
  rw [hW2] at HB1 HB2 HK2 HWY
  have n1 : ¬ (n : Int) < 0 := by omega
  have n2 : ¬ (9007199254740991 : Int) < (n : Int) := by omega
  have n3 : ¬ (m : Int) < 0 := by omega
  have n4 : ¬ (n : Int) < (m : Int) := by omega
  have n5 : (0 : Int) < (m : Int) := by omega
  have n6 : ((m : Int) == 0) = false := by simp; omega
  have w9 : IntKind.i64.wrap ((K : Int) + 1) = (K : Int) + 1 := IntWalk.i64_in _ (by omega)
  have HZF := Lib.hid fun W => Blk.new W 24 (List.replicate 32 (Value.int .u8 0))
  have HFVE := Lib.hid hFV
  clear hway hK hres hne hUV hb ha hOV hRV hTV hSV hW2 hk2 hr hold hroot hG ha1 ha2 hc1 hc2 hM1 hM2 hkn hFV hs
  go_enter Tryd.func30, Tryd.ntmps30
  go_wp2_with (first
    | (go_at_call 56; refine HWY.out.mono ?_; rintro e w3 ⟨Aw, cw, rfl, hmw⟩; have hk3 := HK2.out.trans hmw.2.1 (fun _ _ h => h); have HKW := Lib.hid hk3; have HB31 := Lib.hid (hmw.2.1.blk HB1.out (fun h => h)); have HB32 := Lib.hid (hmw.2.1.blk HB2.out (fun h => h)); have HRW := Lib.hid (Rd.of_own hmw.1); clear hk3 hmw)
    | ((with_reducible show wpList _ _ _ (⟨some 70, Op.load 24 _, _, _, _, _⟩ :: _) _ _); refine wpList_load_whole rfl 24 _ rfl _ rfl HB31.out Tryd.underlying24 rfl HOI.out ?_)
    | ((with_reducible show wpList _ _ _ (⟨none, Op.store 24 _ _, _, _, _, _⟩ :: _) _ _); refine wpList_store_whole rfl 24 _ _ rfl OV rfl rfl (HZF.out w3) (by rw [HOL.out]; simp) HOI.out HO1.out ?_; refine gen_world (fun W => Blk W w.heap.size 24 OV ∧ Blk W (w.heap.size + 1) 24 RV ∧ Blk W w3.heap.size 24 OV ∧ Keeps (fun _ => False) w3 W) ⟨(HB31.out.alloc _).setRow_far (by have := HB31.out.lt; omega) _, (HB32.out.alloc _).setRow_far (by have := HB32.out.lt; omega) _, (HZF.out w3).setRow OV, ((Keeps.refl _ w3).alloc _).setRow (.inr (Nat.le_refl _)) _⟩ ?_; rintro w4 ⟨hb41, hb42, hb4f, hk4⟩; have HB41 := Lib.hid hb41; have HB42 := Lib.hid hb42; have HB4F := Lib.hid hb4f; have HK4 := Lib.hid hk4; clear hb41 hb42 hb4f hk4))
  have HL0 : Hid (∀ W, Keeps (fun _ => False) w4 W → Lies W g0 o0 FV) := Lib.hid fun W hW => by
    obtain ⟨g, o, e, hl⟩ := HL00.out W ((HKW.out.trans HK4.out (fun _ _ h => h)).trans hW (fun _ _ h => h))
    injection e with e
    injection e with e1 e2
    subst e1 e2
    exact hl
  refine wp_region_tail (S := Keeps (fun _ => False) w4) 5 (by kernel_rfl) (Keeps.refl (fun _ => False) _).drew (fun hHeld => ?_)
  refine wpAnyT_pure (i := 0) (oi := ⟨some 73, _, _, _, _, _⟩) (v := ?_) rfl (by kernel_rfl) (by kernel_rfl) (by kernel_rfl) (fun _ _ _ h => h) (Or.inl ⟨by rfl, ?_⟩) ?_
  rotate_left
  · intro w' hSw
    go_simp
    first | done | rfl
  try simp only [Act.put, List.setIfInBounds_toArray, List.set_cons_zero, List.set_cons_succ]
  refine wpAnyT_pure (i := 1) (oi := ⟨some 74, _, _, _, _, _⟩) (v := ?_) rfl (by kernel_rfl) (by kernel_rfl) (by kernel_rfl) (fun _ _ _ h => h) (Or.inl ⟨by rfl, ?_⟩) ?_
  rotate_left
  · intro w' hSw
    go_simp
    first | done | rfl
  try simp only [Act.put, List.setIfInBounds_toArray, List.set_cons_zero, List.set_cons_succ]
  refine wpAnyT_take [2] (i := 2) (oi := ⟨some 75, _, _, _, _, _⟩) (v := _) rfl (by kernel_rfl) (by kernel_rfl) (by kernel_rfl) (by kernel_rfl) (by kernel_rfl) (fun _ _ _ h => h) (yieldsIf_load_mid (by rfl) _ _ rfl _ _ rfl FV _ (fun w' h => lies_range (HL0.out _ h)) Tryd.underlying24 rfl HFI.out) hHeld ?_
  try simp only [Act.put, List.setIfInBounds_toArray, List.set_cons_zero, List.set_cons_succ]
  refine wpAnyT_pure (i := 3) (oi := ⟨some 76, _, _, _, _, _⟩) (v := ?_) rfl (by kernel_rfl) (by kernel_rfl) (by kernel_rfl) (fun _ _ _ h => h) (Or.inl ⟨by rfl, ?_⟩) ?_
  rotate_left
  · intro w' hSw
    go_simp
    first | done | rfl
  try simp only [Act.put, List.setIfInBounds_toArray, List.set_cons_zero, List.set_cons_succ]
  refine wpAnyT_pure (i := 4) (oi := ⟨some 77, _, _, _, _, _⟩) (v := ?_) rfl (by kernel_rfl) (by kernel_rfl) (by kernel_rfl) (fun _ _ _ h => h) (Or.inl ⟨by rfl, ?_⟩) ?_
  rotate_left
  · intro w' hSw
    have cv := HCUT.out w'
    go_simp
    first | done | rfl
  try simp only [Act.put, List.setIfInBounds_toArray, List.set_cons_zero, List.set_cons_succ]
  refine wpAnyT_tail (i := 5) (o := ⟨none, _, _, _, _, _⟩) (by kernel_rfl) (by kernel_rfl) rfl (fun K hK => ?_)
  refine stepH_store rfl 24 _ _ rfl FV rfl rfl (hHeld.blk HB4F.out (fun h => h)) (by rw [HFL.out, HOL.out]) HFI.out HF1.out ?_
  refine hK.out _ _ ?_
  clear hK K
  try simp only [Act.put, List.setIfInBounds_toArray, List.set_cons_zero, List.set_cons_succ]
  refine wpAnyT_tail (i := 6) (o := ⟨some 4, _, _, _, _, _⟩) (by kernel_rfl) (by kernel_rfl) rfl (fun K hK => ?_)
  go_simp
  refine hK.out _ _ ?_
  clear hK K
  try simp only [Act.put, List.setIfInBounds_toArray, List.set_cons_zero, List.set_cons_succ]
  refine wpAnyT_done (by kernel_rfl) ?_
  obtain ⟨w5, hw5⟩ : ∃ w5, w5 = w4.drew.setRow w3.heap.size FV.toArray := ⟨_, rfl⟩
  rw [← hw5]
  have HB51 : Hid (Blk w5 w.heap.size 24 OV) := Lib.hid (by rw [hw5]; exact HB41.out.drew.setRow_far (by have := HB31.out.lt; omega) _)
  have HB52 : Hid (Blk w5 (w.heap.size + 1) 24 RV) := Lib.hid (by rw [hw5]; exact HB42.out.drew.setRow_far (by have := HB32.out.lt; omega) _)
  have HB5F : Hid (Blk w5 w3.heap.size 24 FV) := Lib.hid (by rw [hw5]; exact HB4F.out.drew.setRow FV)
  have HK5 : Hid (Keeps (fun _ => False) w3 w5) := Lib.hid (by rw [hw5]; exact HK4.out.drew.setRow (.inr (Nat.le_refl _)) _)
  have HCL : Hid (∀ W, Keeps (fun _ => False) w5 W → _) := Lib.hid (fun W hW => HCLG.out W Aw cw ((HKW.out.trans HK5.out (fun _ _ h => h)).trans hW (fun _ _ h => h)) (HRW.out.keep (HK5.out.trans hW (fun _ _ h => h)) (no_out _ _)))
  clear hw5
  go_wp2
  have HRF : Hid (∀ W, Keeps (fun _ => False) w5 W → W.rangeAt w3.heap.size 0 FV) := Lib.hid fun W hW j v hv => by rw [Nat.zero_add, (hW.blk HB5F.out (fun h => h)).cell, hv]
  have HRO : Hid (∀ W, Keeps (fun _ => False) w5 W → W.rangeAt w.heap.size 0 OV) := Lib.hid fun W hW j v hv => by rw [Nat.zero_add, (hW.blk HB51.out (fun h => h)).cell, hv]
  have HRR : Hid (∀ W, Keeps (fun _ => False) w5 W → W.rangeAt (w.heap.size + 1) 0 RV) := Lib.hid fun W hW j v hv => by rw [Nat.zero_add, (hW.blk HB52.out (fun h => h)).cell, hv]
  refine wp_region_held_drew (S := Keeps (fun _ => False) w5) (by kernel_rfl) (Keeps.refl (fun _ => False) _).drew (fun hHeld => ?_)
  refine wpAnyH_take (i := 0) (oi := ⟨some 78, _, _, _, _, _⟩) (v := _) rfl (by kernel_rfl) (by kernel_rfl) (by kernel_rfl) (fun _ _ _ h => h) (yieldsIf_load_mid (by rfl) _ _ rfl _ _ rfl FV _ (fun w' h => HRF.out _ h) Tryd.underlying24 rfl HFI.out) hHeld ?_
  try simp only [Act.put, List.setIfInBounds_toArray, List.set_cons_zero, List.set_cons_succ]
  refine wpAnyH_take (i := 1) (oi := ⟨some 79, _, _, _, _, _⟩) (v := _) rfl (by kernel_rfl) (by kernel_rfl) (by kernel_rfl) (fun _ _ _ h => h) (yieldsIf_load_mid (by rfl) _ _ rfl _ _ rfl FV _ (fun w' h => HRF.out _ h) Tryd.underlying24 rfl HFI.out) hHeld ?_
  try simp only [Act.put, List.setIfInBounds_toArray, List.set_cons_zero, List.set_cons_succ]
  refine wpAnyH_take (i := 2) (oi := ⟨some 80, _, _, _, _, _⟩) (v := ?_) rfl (by kernel_rfl) (by kernel_rfl) (by kernel_rfl) (fun _ _ _ h => h) (Or.inl ⟨by rfl, ?_⟩) hHeld ?_
  rotate_left
  · intro w' hSw
    have cv1 := HA1.out; have cv2 := HA2.out; have cv3 := HFL.out; have cv5 := HAs.out
    go_simp
    first | done | rfl
  try simp only [Act.put, List.setIfInBounds_toArray, List.set_cons_zero, List.set_cons_succ]
  refine wpAnyH_take (i := 3) (oi := ⟨some 81, _, _, _, _, _⟩) (v := ?_) rfl (by kernel_rfl) (by kernel_rfl) (by kernel_rfl) (fun _ _ _ h => h) (Or.inl ⟨by rfl, ?_⟩) hHeld ?_
  rotate_left
  · intro w' hSw
    go_simp
    first | done | rfl
  try simp only [Act.put, List.setIfInBounds_toArray, List.set_cons_zero, List.set_cons_succ]
  refine wpAnyH_take (i := 4) (oi := ⟨some 82, _, _, _, _, _⟩) (v := ?_) rfl (by kernel_rfl) (by kernel_rfl) (by kernel_rfl) (fun _ _ _ h => h) (Or.inl ⟨by rfl, ?_⟩) hHeld ?_
  rotate_left
  · intro w' hSw
    go_simp
    first | done | rfl
  try simp only [Act.put, List.setIfInBounds_toArray, List.set_cons_zero, List.set_cons_succ]
  refine wpAnyH_take (i := 5) (oi := ⟨some 83, _, _, _, _, _⟩) (v := ?_) rfl (by kernel_rfl) (by kernel_rfl) (by kernel_rfl) (fun _ _ _ h => h) (Or.inl ⟨by rfl, ?_⟩) hHeld ?_
  rotate_left
  · intro w' hSw
    go_simp
    first | done | rfl
  try simp only [Act.put, List.setIfInBounds_toArray, List.set_cons_zero, List.set_cons_succ]
  refine wpAnyH_take (i := 6) (oi := ⟨some 84, _, _, _, _, _⟩) (v := ?_) rfl (by kernel_rfl) (by kernel_rfl) (by kernel_rfl) (fun _ _ _ h => h) (Or.inl ⟨by rfl, ?_⟩) hHeld ?_
  rotate_left
  · intro w' hSw
    go_simp
    first | done | rfl
  try simp only [Act.put, List.setIfInBounds_toArray, List.set_cons_zero, List.set_cons_succ]
  refine wpAnyH_take (i := 7) (oi := ⟨some 85, _, _, _, _, _⟩) (v := ?_) rfl (by kernel_rfl) (by kernel_rfl) (by kernel_rfl) (fun _ _ _ h => h) (Or.inl ⟨by rfl, ?_⟩) hHeld ?_
  rotate_left
  · intro w' hSw
    go_simp
    first | done | rfl
  try simp only [Act.put, List.setIfInBounds_toArray, List.set_cons_zero, List.set_cons_succ]
  refine wpAnyH_take (i := 9) (oi := ⟨some 87, _, _, _, _, _⟩) (v := _) rfl (by kernel_rfl) (by kernel_rfl) (by kernel_rfl) (fun _ _ _ h => h) (yieldsIf_load_mid (by rfl) _ _ rfl _ _ rfl OV _ (fun w' h => HRO.out _ h) Tryd.underlying24 rfl HOI.out) hHeld ?_
  try simp only [Act.put, List.setIfInBounds_toArray, List.set_cons_zero, List.set_cons_succ]
  refine wpAnyH_take (i := 10) (oi := ⟨some 88, _, _, _, _, _⟩) (v := _) rfl (by kernel_rfl) (by kernel_rfl) (by kernel_rfl) (fun _ _ _ h => h) (yieldsIf_load_mid (by rfl) _ _ rfl _ _ rfl RV _ (fun w' h => HRR.out _ h) Tryd.underlying24 rfl HRI.out) hHeld ?_
  try simp only [Act.put, List.setIfInBounds_toArray, List.set_cons_zero, List.set_cons_succ]
  refine wpAnyH_take (i := 11) (oi := ⟨some 89, _, _, _, _, _⟩) (v := ?_) rfl (by kernel_rfl) (by kernel_rfl) (by kernel_rfl) (fun _ _ _ h => h) (Or.inl ⟨by rfl, ?_⟩) hHeld ?_
  rotate_left
  · intro w' hSw
    have cv1 := HC1.out; have cv2 := HC2.out; have cv3 := HOL.out; have cv4 := HRL.out; have cv5 := HCs.out
    go_simp
    first | done | rfl
  try simp only [Act.put, List.setIfInBounds_toArray, List.set_cons_zero, List.set_cons_succ]
  refine wpAnyH_ready (rs := [8]) (by kernel_rfl) (by simp) ?_
  refine AllReadyH.cons (o := ⟨some 86, _, _, _, _, _⟩) rfl (fun K hK => ?_) AllReadyH.nil
  go_simp
  refine (HCL.out _ hHeld).mono ?_
  rintro e v8 ⟨rfl, hk8⟩
  have hq8 := hHeld.trans hk8 (fun _ _ h => h)
  refine hK.out _ _ hq8 (fun hHeld => ?_)
  clear hK K
  try simp only [Act.put, List.setIfInBounds_toArray, List.set_cons_zero, List.set_cons_succ]
  refine wpAnyH_take (i := 12) (oi := ⟨some 90, _, _, _, _, _⟩) (v := ?_) rfl (by kernel_rfl) (by kernel_rfl) (by kernel_rfl) (fun _ _ _ h => h) (Or.inl ⟨by rfl, ?_⟩) hHeld ?_
  rotate_left
  · intro w' hSw
    have cv1 := HE1.out w'; have cv2 := HE2.out w'
    go_simp
    first | done | rfl
  try simp only [Act.put, List.setIfInBounds_toArray, List.set_cons_zero, List.set_cons_succ]
  refine wpAnyH_done (by kernel_rfl) ?_ _
  go_wp2
  go_ret
  exact ⟨rfl, (HKW.out.trans HK5.out (fun _ _ h => h)).trans hq8 (fun _ _ h => h)⟩
set_option maxRecDepth 100000 in
set_option maxHeartbeats 8000000 in
theorem cgrow_new_tf (w : World) (hG : Glob w) (old root s : List Int) (hold : IsDig old) (hroot : IsDig root) (hs : IsDig s) (m n : Nat) (hn : n ≤ 9007199254740991) (hm0 : 0 < m) (hmn : m ≤ n) (A : Option Addr) (c : Nat) (ps : List (List Int)) (hkn : (gwayF m n true).2 = false)
    (hr : RdD w A ((gwayF m n true).1.length + 1) (s :: ps)) (hcap : (gwayF m n true).1.length + 1 ≤ c) (b : List Int) (hb : IsDig b) (hne : b ≠ root) (hres : climbF joinT2 ofT2 aheadT2 (s ++ s) (gwayF m n true).1 ps = old ++ b) :
    Calls Tryd.prog 30 #[.int .i64 m, .agg (vb old).toArray, .int .i64 n, .agg (vb root).toArray, .slice A ((gwayF m n true).1.length + 1) c] w fun e w' => e = .returned (errno 271) ∧ Keeps (fun _ => False) w w' := by
  have hwl := gway_short m n 53 true (by omega)
  obtain ⟨OV, hOV⟩ : ∃ V, V = vb old := ⟨_, rfl⟩
  obtain ⟨RV, hRV⟩ : ∃ V, V = vb root := ⟨_, rfl⟩
  obtain ⟨TV, hTV⟩ : ∃ V, V = vb (old ++ root) := ⟨_, rfl⟩
  have HOL : Hid (OV.length = 32) := Lib.hid (by rw [hOV, vb_length]; exact hold.1)
  have HRL : Hid (RV.length = 32) := Lib.hid (by rw [hRV, vb_length]; exact hroot.1)
  have HO1 : Hid (∀ u ∈ OV, u.oneCell' = true) := Lib.hid (by rw [hOV]; exact vb_one _)
  have HOI : Hid ((Tryd.prog.info? 24).map (·.size) = some OV.length) := Lib.hid (by rw [HOL.out]; kernel_rfl)
  have HRI : Hid ((Tryd.prog.info? 24).map (·.size) = some RV.length) := Lib.hid (by rw [HRL.out]; kernel_rfl)
  obtain ⟨FV, hFV⟩ : ∃ V, V = vb s := ⟨_, rfl⟩
  have HFL : Hid (FV.length = 32) := Lib.hid (by rw [hFV, vb_length]; exact hs.1)
  have HF1 : Hid (∀ u ∈ FV, u.oneCell' = true) := Lib.hid (by rw [hFV]; exact vb_one _)
  have HFI : Hid ((Tryd.prog.info? 24).map (·.size) = some FV.length) := Lib.hid (by rw [HFL.out]; kernel_rfl)
  have ht1 : List.take 32 TV = vb old := by rw [hTV, vb_app, ← hold.1, ← vb_length old, List.take_left' rfl]
  have ht2 : List.take 32 (List.drop 32 TV) = vb root := by
    rw [hTV, vb_app, ← hold.1, ← vb_length old, List.drop_left' rfl, List.take_of_length_le (by rw [vb_length, vb_length, hroot.1, hold.1]; omega)]
  obtain ⟨UV, hUV⟩ : ∃ V, V = vb (old ++ b) := ⟨_, rfl⟩
  have hu1 : List.take 32 UV = vb old := by rw [hUV, vb_app, ← hold.1, ← vb_length old, List.take_left' rfl]
  have hu2 : List.take 32 (List.drop 32 UV) = vb b := by
    rw [hUV, vb_app, ← hold.1, ← vb_length old, List.drop_left' rfl, List.take_of_length_le (by rw [vb_length, vb_length, hb.1, hold.1]; omega)]
  have HE1 : Hid (∀ W, (Op.equalIn 9999 24 (.agg (List.take 32 UV).toArray) (.agg (List.take 32 TV).toArray)).run Tryd.prog W = .ok true W) := Lib.hid fun W => by rw [ht1, hu1, dig_inD _ _ hold.1 hold.1 W, decide_eq_true rfl]
  have HE2 : Hid (∀ W, (Op.equalIn 9999 24 (.agg (List.take 32 (List.drop 32 UV)).toArray) (.agg (List.take 32 (List.drop 32 TV)).toArray)).run Tryd.prog W = .ok false W) := Lib.hid fun W => by rw [ht2, hu2, dig_inD _ _ hb.1 hroot.1 W, decide_eq_false hne]
  clear ht1 ht2 hu1 hu2
  obtain ⟨SV, hSV⟩ : ∃ V, V = vb (s ++ s) := ⟨_, rfl⟩
  have ha1 := build_lo s hs.1
  have ha2 := build_hi s s hs.1 hs.1
  have hc1 := build_lo old hold.1
  have hc2 := build_hi old root hold.1 hroot.1
  rw [← hSV, ← hFV] at ha2
  rw [← hFV] at ha1
  rw [← hOV] at hc1
  rw [← hOV, ← hRV, ← hTV] at hc2
  obtain ⟨M1, hM1⟩ : ∃ M, M = (FV ++ vb (List.replicate 32 0)).toArray := ⟨_, rfl⟩
  obtain ⟨M2, hM2⟩ : ∃ M, M = (OV ++ vb (List.replicate 32 0)).toArray := ⟨_, rfl⟩
  have HAs : Hid (M1.size = 64) := Lib.hid (by rw [hM1]; simp [HFL.out, vb])
  have HCs : Hid (M2.size = 64) := Lib.hid (by rw [hM2]; simp [HOL.out, vb])
  rw [← hM1] at ha1 ha2
  rw [← hM2] at hc1 hc2
  have HA1 := Lib.hid ha1
  have HA2 := Lib.hid ha2
  have HC1 := Lib.hid hc1
  have HC2 := Lib.hid hc2
  obtain ⟨W2, hW2⟩ : ∃ W2, W2 = (w.alloc (.cells OV.toArray 24)).alloc (.cells RV.toArray 24) := ⟨_, rfl⟩
  have hk2 : Keeps (fun _ => False) w W2 := by rw [hW2]; exact ((Keeps.refl _ w).alloc _).alloc _
  have HB1 : Hid (Blk W2 w.heap.size 24 OV) := Lib.hid (by rw [hW2]; exact (Blk.new w _ _).alloc _)
  have HB2 : Hid (Blk W2 (w.heap.size + 1) 24 RV) := Lib.hid (by
    have h5 := Blk.new (w.alloc (.cells OV.toArray 24)) 24 RV
    rw [World.size_alloc] at h5
    rw [hW2]; exact h5)
  have HK2 := Lib.hid hk2
  have HWY := Lib.hid (gway_any n m true W2 (by omega) hm0 hmn)
  rw [hkn] at HWY
  obtain ⟨way, hway⟩ : ∃ way, way = (gwayF m n true).1 := ⟨_, rfl⟩
  rw [← hway] at hr hres HWY hwl ⊢
  obtain ⟨K, hK⟩ : ∃ K, K = way.length := ⟨_, rfl⟩
  rw [← hK] at hr HWY hwl ⊢
  rw [← hway, ← hK] at hcap
  have HCLG : Hid (∀ W Aw cw, Keeps (fun _ => False) w W → Rd W Aw K (vbool way) → Calls Tryd.prog 60 #[.agg SV.toArray, .slice Aw K cw, .slice (cutD A c 1) K (c - 1), .func (.func 57) #[] #[], .func (.func 58) #[] #[], .func (.func 59) #[] #[]] W fun e w' => e = .returned (.agg UV.toArray) ∧ Keeps (fun _ => False) W w') := Lib.hid fun W Aw cw hW hrw => by
    rw [hSV, hUV, ← hres]
    have hcut := (hr.keep hW (no_out _ _)).cut (k := 1) (c := c) (by omega) (by omega)
    rw [Nat.add_sub_cancel] at hcut
    exact climbT W (hG.keep hW (fun _ h => h.elim)) (s ++ s) ⟨by rw [List.length_append, hs.1], bytes_appB hs.2 hs.2⟩ Aw K cw way hK.symm hrw _ _ ps hcut (by omega)
  have HL00 : Hid (∀ W, Keeps (fun _ => False) w W → ∃ g o, A = some ⟨g, o, none⟩ ∧ Lies W g o FV) := Lib.hid fun W hW => by
    obtain ⟨g, o, d, e, hd, hl⟩ := (hr.keep hW (no_out _ _)).lies (k := 0) (by omega)
    have hde : s = d := by simpa using hd
    subst hde
    rw [Nat.zero_mul, Nat.add_zero] at hl
    exact ⟨g, o, e, by rw [hFV]; exact hl⟩
  have HCUT : Hid (∀ W, (Instr.sliceAt 36 (.slice A (K + 1) c) (some (.int .i64 1)) none none).run Tryd.prog W = .ok (.slice (cutD A c 1) K (c - 1)) W) := Lib.hid fun W => by
    have h9 := cutD_l (P := Tryd.prog) Tryd.underlying36 (by kernel_rfl) A (K + 1) c 1 1 rfl (by omega) W
    rwa [Nat.add_sub_cancel] at h9
  obtain ⟨g0, o0, hA0, _⟩ := HL00.out w (Keeps.refl _ _)
  subst hA0
  rw [← hOV, ← hRV]
  rw [hW2] at HB1 HB2 HK2 HWY
  have n1 : ¬ (n : Int) < 0 := by omega
  have n2 : ¬ (9007199254740991 : Int) < (n : Int) := by omega
  have n3 : ¬ (m : Int) < 0 := by omega
  have n4 : ¬ (n : Int) < (m : Int) := by omega
  have n5 : (0 : Int) < (m : Int) := by omega
  have n6 : ((m : Int) == 0) = false := by simp; omega
  have w9 : IntKind.i64.wrap ((K : Int) + 1) = (K : Int) + 1 := IntWalk.i64_in _ (by omega)
  have HZF := Lib.hid fun W => Blk.new W 24 (List.replicate 32 (Value.int .u8 0))
  have HFVE := Lib.hid hFV
  clear hway hK hres hne hUV hb hOV hRV hTV hSV hW2 hk2 hr hold hroot hG ha1 ha2 hc1 hc2 hM1 hM2 hkn hFV hs
  go_enter Tryd.func30, Tryd.ntmps30
  go_wp2_with (first
    | (go_at_call 56; refine HWY.out.mono ?_; rintro e w3 ⟨Aw, cw, rfl, hmw⟩; have hk3 := HK2.out.trans hmw.2.1 (fun _ _ h => h); have HKW := Lib.hid hk3; have HB31 := Lib.hid (hmw.2.1.blk HB1.out (fun h => h)); have HB32 := Lib.hid (hmw.2.1.blk HB2.out (fun h => h)); have HRW := Lib.hid (Rd.of_own hmw.1); clear hk3 hmw)
    | ((with_reducible show wpList _ _ _ (⟨some 70, Op.load 24 _, _, _, _, _⟩ :: _) _ _); refine wpList_load_whole rfl 24 _ rfl _ rfl HB31.out Tryd.underlying24 rfl HOI.out ?_)
    | ((with_reducible show wpList _ _ _ (⟨none, Op.store 24 _ _, _, _, _, _⟩ :: _) _ _); refine wpList_store_whole rfl 24 _ _ rfl OV rfl rfl (HZF.out w3) (by rw [HOL.out]; simp) HOI.out HO1.out ?_; refine gen_world (fun W => Blk W w.heap.size 24 OV ∧ Blk W (w.heap.size + 1) 24 RV ∧ Blk W w3.heap.size 24 OV ∧ Keeps (fun _ => False) w3 W) ⟨(HB31.out.alloc _).setRow_far (by have := HB31.out.lt; omega) _, (HB32.out.alloc _).setRow_far (by have := HB32.out.lt; omega) _, (HZF.out w3).setRow OV, ((Keeps.refl _ w3).alloc _).setRow (.inr (Nat.le_refl _)) _⟩ ?_; rintro w4 ⟨hb41, hb42, hb4f, hk4⟩; have HB41 := Lib.hid hb41; have HB42 := Lib.hid hb42; have HB4F := Lib.hid hb4f; have HK4 := Lib.hid hk4; clear hb41 hb42 hb4f hk4))
  have HL0 : Hid (∀ W, Keeps (fun _ => False) w4 W → Lies W g0 o0 FV) := Lib.hid fun W hW => by
    obtain ⟨g, o, e, hl⟩ := HL00.out W ((HKW.out.trans HK4.out (fun _ _ h => h)).trans hW (fun _ _ h => h))
    injection e with e
    injection e with e1 e2
    subst e1 e2
    exact hl
  refine wp_region_tail (S := Keeps (fun _ => False) w4) 5 (by kernel_rfl) (Keeps.refl (fun _ => False) _).drew (fun hHeld => ?_)
  refine wpAnyT_pure (i := 0) (oi := ⟨some 73, _, _, _, _, _⟩) (v := ?_) rfl (by kernel_rfl) (by kernel_rfl) (by kernel_rfl) (fun _ _ _ h => h) (Or.inl ⟨by rfl, ?_⟩) ?_
  rotate_left
  · intro w' hSw
    go_simp
    first | done | rfl
  try simp only [Act.put, List.setIfInBounds_toArray, List.set_cons_zero, List.set_cons_succ]
  refine wpAnyT_pure (i := 1) (oi := ⟨some 74, _, _, _, _, _⟩) (v := ?_) rfl (by kernel_rfl) (by kernel_rfl) (by kernel_rfl) (fun _ _ _ h => h) (Or.inl ⟨by rfl, ?_⟩) ?_
  rotate_left
  · intro w' hSw
    go_simp
    first | done | rfl
  try simp only [Act.put, List.setIfInBounds_toArray, List.set_cons_zero, List.set_cons_succ]
  refine wpAnyT_take [2] (i := 2) (oi := ⟨some 75, _, _, _, _, _⟩) (v := _) rfl (by kernel_rfl) (by kernel_rfl) (by kernel_rfl) (by kernel_rfl) (by kernel_rfl) (fun _ _ _ h => h) (yieldsIf_load_mid (by rfl) _ _ rfl _ _ rfl FV _ (fun w' h => lies_range (HL0.out _ h)) Tryd.underlying24 rfl HFI.out) hHeld ?_
  try simp only [Act.put, List.setIfInBounds_toArray, List.set_cons_zero, List.set_cons_succ]
  refine wpAnyT_pure (i := 3) (oi := ⟨some 76, _, _, _, _, _⟩) (v := ?_) rfl (by kernel_rfl) (by kernel_rfl) (by kernel_rfl) (fun _ _ _ h => h) (Or.inl ⟨by rfl, ?_⟩) ?_
  rotate_left
  · intro w' hSw
    go_simp
    first | done | rfl
  try simp only [Act.put, List.setIfInBounds_toArray, List.set_cons_zero, List.set_cons_succ]
  refine wpAnyT_pure (i := 4) (oi := ⟨some 77, _, _, _, _, _⟩) (v := ?_) rfl (by kernel_rfl) (by kernel_rfl) (by kernel_rfl) (fun _ _ _ h => h) (Or.inl ⟨by rfl, ?_⟩) ?_
  rotate_left
  · intro w' hSw
    have cv := HCUT.out w'
    go_simp
    first | done | rfl
  try simp only [Act.put, List.setIfInBounds_toArray, List.set_cons_zero, List.set_cons_succ]
  refine wpAnyT_tail (i := 5) (o := ⟨none, _, _, _, _, _⟩) (by kernel_rfl) (by kernel_rfl) rfl (fun K hK => ?_)
  refine stepH_store rfl 24 _ _ rfl FV rfl rfl (hHeld.blk HB4F.out (fun h => h)) (by rw [HFL.out, HOL.out]) HFI.out HF1.out ?_
  refine hK.out _ _ ?_
  clear hK K
  try simp only [Act.put, List.setIfInBounds_toArray, List.set_cons_zero, List.set_cons_succ]
  refine wpAnyT_tail (i := 6) (o := ⟨some 4, _, _, _, _, _⟩) (by kernel_rfl) (by kernel_rfl) rfl (fun K hK => ?_)
  go_simp
  refine hK.out _ _ ?_
  clear hK K
  try simp only [Act.put, List.setIfInBounds_toArray, List.set_cons_zero, List.set_cons_succ]
  refine wpAnyT_done (by kernel_rfl) ?_
  obtain ⟨w5, hw5⟩ : ∃ w5, w5 = w4.drew.setRow w3.heap.size FV.toArray := ⟨_, rfl⟩
  rw [← hw5]
  have HB51 : Hid (Blk w5 w.heap.size 24 OV) := Lib.hid (by rw [hw5]; exact HB41.out.drew.setRow_far (by have := HB31.out.lt; omega) _)
  have HB52 : Hid (Blk w5 (w.heap.size + 1) 24 RV) := Lib.hid (by rw [hw5]; exact HB42.out.drew.setRow_far (by have := HB32.out.lt; omega) _)
  have HB5F : Hid (Blk w5 w3.heap.size 24 FV) := Lib.hid (by rw [hw5]; exact HB4F.out.drew.setRow FV)
  have HK5 : Hid (Keeps (fun _ => False) w3 w5) := Lib.hid (by rw [hw5]; exact HK4.out.drew.setRow (.inr (Nat.le_refl _)) _)
  have HCL : Hid (∀ W, Keeps (fun _ => False) w5 W → _) := Lib.hid (fun W hW => HCLG.out W Aw cw ((HKW.out.trans HK5.out (fun _ _ h => h)).trans hW (fun _ _ h => h)) (HRW.out.keep (HK5.out.trans hW (fun _ _ h => h)) (no_out _ _)))
  clear hw5
  go_wp2
  have HRF : Hid (∀ W, Keeps (fun _ => False) w5 W → W.rangeAt w3.heap.size 0 FV) := Lib.hid fun W hW j v hv => by rw [Nat.zero_add, (hW.blk HB5F.out (fun h => h)).cell, hv]
  have HRO : Hid (∀ W, Keeps (fun _ => False) w5 W → W.rangeAt w.heap.size 0 OV) := Lib.hid fun W hW j v hv => by rw [Nat.zero_add, (hW.blk HB51.out (fun h => h)).cell, hv]
  have HRR : Hid (∀ W, Keeps (fun _ => False) w5 W → W.rangeAt (w.heap.size + 1) 0 RV) := Lib.hid fun W hW j v hv => by rw [Nat.zero_add, (hW.blk HB52.out (fun h => h)).cell, hv]
  refine wp_region_held_drew (S := Keeps (fun _ => False) w5) (by kernel_rfl) (Keeps.refl (fun _ => False) _).drew (fun hHeld => ?_)
  refine wpAnyH_take (i := 0) (oi := ⟨some 78, _, _, _, _, _⟩) (v := _) rfl (by kernel_rfl) (by kernel_rfl) (by kernel_rfl) (fun _ _ _ h => h) (yieldsIf_load_mid (by rfl) _ _ rfl _ _ rfl FV _ (fun w' h => HRF.out _ h) Tryd.underlying24 rfl HFI.out) hHeld ?_
  try simp only [Act.put, List.setIfInBounds_toArray, List.set_cons_zero, List.set_cons_succ]
  refine wpAnyH_take (i := 1) (oi := ⟨some 79, _, _, _, _, _⟩) (v := _) rfl (by kernel_rfl) (by kernel_rfl) (by kernel_rfl) (fun _ _ _ h => h) (yieldsIf_load_mid (by rfl) _ _ rfl _ _ rfl FV _ (fun w' h => HRF.out _ h) Tryd.underlying24 rfl HFI.out) hHeld ?_
  try simp only [Act.put, List.setIfInBounds_toArray, List.set_cons_zero, List.set_cons_succ]
  refine wpAnyH_take (i := 2) (oi := ⟨some 80, _, _, _, _, _⟩) (v := ?_) rfl (by kernel_rfl) (by kernel_rfl) (by kernel_rfl) (fun _ _ _ h => h) (Or.inl ⟨by rfl, ?_⟩) hHeld ?_
  rotate_left
  · intro w' hSw
    have cv1 := HA1.out; have cv2 := HA2.out; have cv3 := HFL.out; have cv5 := HAs.out
    go_simp
    first | done | rfl
  try simp only [Act.put, List.setIfInBounds_toArray, List.set_cons_zero, List.set_cons_succ]
  refine wpAnyH_take (i := 3) (oi := ⟨some 81, _, _, _, _, _⟩) (v := ?_) rfl (by kernel_rfl) (by kernel_rfl) (by kernel_rfl) (fun _ _ _ h => h) (Or.inl ⟨by rfl, ?_⟩) hHeld ?_
  rotate_left
  · intro w' hSw
    go_simp
    first | done | rfl
  try simp only [Act.put, List.setIfInBounds_toArray, List.set_cons_zero, List.set_cons_succ]
  refine wpAnyH_take (i := 4) (oi := ⟨some 82, _, _, _, _, _⟩) (v := ?_) rfl (by kernel_rfl) (by kernel_rfl) (by kernel_rfl) (fun _ _ _ h => h) (Or.inl ⟨by rfl, ?_⟩) hHeld ?_
  rotate_left
  · intro w' hSw
    go_simp
    first | done | rfl
  try simp only [Act.put, List.setIfInBounds_toArray, List.set_cons_zero, List.set_cons_succ]
  refine wpAnyH_take (i := 5) (oi := ⟨some 83, _, _, _, _, _⟩) (v := ?_) rfl (by kernel_rfl) (by kernel_rfl) (by kernel_rfl) (fun _ _ _ h => h) (Or.inl ⟨by rfl, ?_⟩) hHeld ?_
  rotate_left
  · intro w' hSw
    go_simp
    first | done | rfl
  try simp only [Act.put, List.setIfInBounds_toArray, List.set_cons_zero, List.set_cons_succ]
  refine wpAnyH_take (i := 6) (oi := ⟨some 84, _, _, _, _, _⟩) (v := ?_) rfl (by kernel_rfl) (by kernel_rfl) (by kernel_rfl) (fun _ _ _ h => h) (Or.inl ⟨by rfl, ?_⟩) hHeld ?_
  rotate_left
  · intro w' hSw
    go_simp
    first | done | rfl
  try simp only [Act.put, List.setIfInBounds_toArray, List.set_cons_zero, List.set_cons_succ]
  refine wpAnyH_take (i := 7) (oi := ⟨some 85, _, _, _, _, _⟩) (v := ?_) rfl (by kernel_rfl) (by kernel_rfl) (by kernel_rfl) (fun _ _ _ h => h) (Or.inl ⟨by rfl, ?_⟩) hHeld ?_
  rotate_left
  · intro w' hSw
    go_simp
    first | done | rfl
  try simp only [Act.put, List.setIfInBounds_toArray, List.set_cons_zero, List.set_cons_succ]
  refine wpAnyH_take (i := 9) (oi := ⟨some 87, _, _, _, _, _⟩) (v := _) rfl (by kernel_rfl) (by kernel_rfl) (by kernel_rfl) (fun _ _ _ h => h) (yieldsIf_load_mid (by rfl) _ _ rfl _ _ rfl OV _ (fun w' h => HRO.out _ h) Tryd.underlying24 rfl HOI.out) hHeld ?_
  try simp only [Act.put, List.setIfInBounds_toArray, List.set_cons_zero, List.set_cons_succ]
  refine wpAnyH_take (i := 10) (oi := ⟨some 88, _, _, _, _, _⟩) (v := _) rfl (by kernel_rfl) (by kernel_rfl) (by kernel_rfl) (fun _ _ _ h => h) (yieldsIf_load_mid (by rfl) _ _ rfl _ _ rfl RV _ (fun w' h => HRR.out _ h) Tryd.underlying24 rfl HRI.out) hHeld ?_
  try simp only [Act.put, List.setIfInBounds_toArray, List.set_cons_zero, List.set_cons_succ]
  refine wpAnyH_take (i := 11) (oi := ⟨some 89, _, _, _, _, _⟩) (v := ?_) rfl (by kernel_rfl) (by kernel_rfl) (by kernel_rfl) (fun _ _ _ h => h) (Or.inl ⟨by rfl, ?_⟩) hHeld ?_
  rotate_left
  · intro w' hSw
    have cv1 := HC1.out; have cv2 := HC2.out; have cv3 := HOL.out; have cv4 := HRL.out; have cv5 := HCs.out
    go_simp
    first | done | rfl
  try simp only [Act.put, List.setIfInBounds_toArray, List.set_cons_zero, List.set_cons_succ]
  refine wpAnyH_ready (rs := [8]) (by kernel_rfl) (by simp) ?_
  refine AllReadyH.cons (o := ⟨some 86, _, _, _, _, _⟩) rfl (fun K hK => ?_) AllReadyH.nil
  go_simp
  refine (HCL.out _ hHeld).mono ?_
  rintro e v8 ⟨rfl, hk8⟩
  have hq8 := hHeld.trans hk8 (fun _ _ h => h)
  refine hK.out _ _ hq8 (fun hHeld => ?_)
  clear hK K
  try simp only [Act.put, List.setIfInBounds_toArray, List.set_cons_zero, List.set_cons_succ]
  refine wpAnyH_take (i := 12) (oi := ⟨some 90, _, _, _, _, _⟩) (v := ?_) rfl (by kernel_rfl) (by kernel_rfl) (by kernel_rfl) (fun _ _ _ h => h) (Or.inl ⟨by rfl, ?_⟩) hHeld ?_
  rotate_left
  · intro w' hSw
    have cv1 := HE1.out w'; have cv2 := HE2.out w'
    go_simp
    first | done | rfl
  try simp only [Act.put, List.setIfInBounds_toArray, List.set_cons_zero, List.set_cons_succ]
  refine wpAnyH_done (by kernel_rfl) ?_ _
  go_wp2
  go_ret
  exact ⟨rfl, (HKW.out.trans HK5.out (fun _ _ h => h)).trans hq8 (fun _ _ h => h)⟩
end Go.Proofs.YtknecjjdegngfaaDoor

namespace Go.Proofs.YtknecjjdegngfaaDoor
open Go Go.RowKit Go.Sha Go.Aff Go.Book
theorem blk_new2 (v : World) (o : Obj) (T : TypeId) (cs : List Value) : Blk ((v.alloc o).alloc (.cells cs.toArray T)) (v.heap.size + 1) T cs := by
  have h5 := Blk.new (v.alloc o) T cs
  rw [World.size_alloc] at h5
  exact h5
set_option maxRecDepth 100000 in
set_option maxHeartbeats 4000000 in
theorem centry_arg (w : World) (root leaf : List Int) (n i : Int) (A : Option Addr) (L c : Nat) (h : n < 1 ∨ 9007199254740991 < n ∨ i < 0 ∨ n ≤ i) :
    Calls Tryd.prog 26 #[.agg (vb root).toArray, .int .i64 n, .int .i64 i, .agg (vb leaf).toArray, .slice A L c] w fun e w' => e = .returned (errno 2) ∧ Keeps (fun _ => False) w w' := by
  by_cases h0 : n < 1
  · clear h
    go_enter Tryd.func26, Tryd.ntmps26
    go_wp2
    go_ret
    exact ⟨rfl, ((Keeps.refl _ w).alloc _).alloc _⟩
  by_cases h1 : 9007199254740991 < n
  · clear h
    go_enter Tryd.func26, Tryd.ntmps26
    go_wp2
    go_ret
    exact ⟨rfl, ((Keeps.refl _ w).alloc _).alloc _⟩
  by_cases h2 : i < 0
  · clear h
    go_enter Tryd.func26, Tryd.ntmps26
    go_wp2
    go_ret
    exact ⟨rfl, ((Keeps.refl _ w).alloc _).alloc _⟩
  by_cases h3 : n ≤ i
  · clear h
    go_enter Tryd.func26, Tryd.ntmps26
    go_wp2
    go_ret
    exact ⟨rfl, ((Keeps.refl _ w).alloc _).alloc _⟩
  exact absurd h (by omega)
set_option maxRecDepth 100000 in
set_option maxHeartbeats 4000000 in
theorem cgrow_arg (w : World) (old root : List Int) (m n : Int) (A : Option Addr) (L c : Nat) (h : n < 0 ∨ 9007199254740991 < n ∨ m < 0 ∨ n < m) :
    Calls Tryd.prog 30 #[.int .i64 m, .agg (vb old).toArray, .int .i64 n, .agg (vb root).toArray, .slice A L c] w fun e w' => e = .returned (errno 2) ∧ Keeps (fun _ => False) w w' := by
  by_cases h0 : n < 0
  · clear h
    go_enter Tryd.func30, Tryd.ntmps30
    go_wp2
    go_ret
    exact ⟨rfl, ((Keeps.refl _ w).alloc _).alloc _⟩
  by_cases h1 : 9007199254740991 < n
  · clear h
    go_enter Tryd.func30, Tryd.ntmps30
    go_wp2
    go_ret
    exact ⟨rfl, ((Keeps.refl _ w).alloc _).alloc _⟩
  by_cases h2 : m < 0
  · clear h
    go_enter Tryd.func30, Tryd.ntmps30
    go_wp2
    go_ret
    exact ⟨rfl, ((Keeps.refl _ w).alloc _).alloc _⟩
  by_cases h3 : n < m
  · clear h
    go_enter Tryd.func30, Tryd.ntmps30
    go_wp2
    go_ret
    exact ⟨rfl, ((Keeps.refl _ w).alloc _).alloc _⟩
  exact absurd h (by omega)
set_option maxRecDepth 100000 in
set_option maxHeartbeats 4000000 in
theorem rentry_arg (w : World) (root leaf : List Int) (n i : Int) (A : Option Addr) (L c : Nat) (h : n < 1 ∨ 9007199254740991 < n ∨ i < 0 ∨ n ≤ i) :
    Calls Tryd.prog 27 #[.agg (vb root).toArray, .int .i64 n, .int .i64 i, .agg (vb leaf).toArray, .slice A L c] w fun e w' => e = .returned (.tuple #[.int .i64 2, .int .i64 (-1), .slice none 0 0]) ∧ Keeps (fun _ => False) w w' := by
  by_cases h0 : n < 1
  · clear h
    go_enter Tryd.func27, Tryd.ntmps27
    go_wp2
    go_ret3
    exact ⟨rfl, ((Keeps.refl _ w).alloc _).alloc _⟩
  by_cases h1 : 9007199254740991 < n
  · clear h
    go_enter Tryd.func27, Tryd.ntmps27
    go_wp2
    go_ret3
    exact ⟨rfl, ((Keeps.refl _ w).alloc _).alloc _⟩
  by_cases h2 : i < 0
  · clear h
    go_enter Tryd.func27, Tryd.ntmps27
    go_wp2
    go_ret3
    exact ⟨rfl, ((Keeps.refl _ w).alloc _).alloc _⟩
  by_cases h3 : n ≤ i
  · clear h
    go_enter Tryd.func27, Tryd.ntmps27
    go_wp2
    go_ret3
    exact ⟨rfl, ((Keeps.refl _ w).alloc _).alloc _⟩
  exact absurd h (by omega)
set_option maxRecDepth 100000 in
set_option maxHeartbeats 4000000 in
theorem rgrow_arg (w : World) (old root : List Int) (m n : Int) (A : Option Addr) (L c : Nat) (h : n < 0 ∨ 9007199254740991 < n ∨ m < 0 ∨ n < m) :
    Calls Tryd.prog 31 #[.int .i64 m, .agg (vb old).toArray, .int .i64 n, .agg (vb root).toArray, .slice A L c] w fun e w' => e = .returned (.tuple #[.int .i64 2, .int .i64 (-1), .slice none 0 0]) ∧ Keeps (fun _ => False) w w' := by
  by_cases h0 : n < 0
  · clear h
    go_enter Tryd.func31, Tryd.ntmps31
    go_wp2
    go_ret3
    exact ⟨rfl, ((Keeps.refl _ w).alloc _).alloc _⟩
  by_cases h1 : 9007199254740991 < n
  · clear h
    go_enter Tryd.func31, Tryd.ntmps31
    go_wp2
    go_ret3
    exact ⟨rfl, ((Keeps.refl _ w).alloc _).alloc _⟩
  by_cases h2 : m < 0
  · clear h
    go_enter Tryd.func31, Tryd.ntmps31
    go_wp2
    go_ret3
    exact ⟨rfl, ((Keeps.refl _ w).alloc _).alloc _⟩
  by_cases h3 : n < m
  · clear h
    go_enter Tryd.func31, Tryd.ntmps31
    go_wp2
    go_ret3
    exact ⟨rfl, ((Keeps.refl _ w).alloc _).alloc _⟩
  exact absurd h (by omega)
set_option maxRecDepth 100000 in
set_option maxHeartbeats 4000000 in
theorem centry_len (w : World) (root leaf : List Int) (n i : Nat) (hn : n ≤ 9007199254740991) (hi : i < n) (A : Option Addr) (L c : Nat) (hL : L ≠ (wayF i n).length) :
    Calls Tryd.prog 26 #[.agg (vb root).toArray, .int .i64 n, .int .i64 i, .agg (vb leaf).toArray, .slice A L c] w fun e w' => e = .returned (spotV 270 ((wayF i n).length : Nat)) ∧ Keeps (fun _ => False) w w' := by
  obtain ⟨W2, hW2⟩ : ∃ W2, W2 = (w.alloc (.cells (vb root).toArray 24)).alloc (.cells (vb leaf).toArray 24) := ⟨_, rfl⟩
  have hk2 : Keeps (fun _ => False) w W2 := by rw [hW2]; exact ((Keeps.refl _ w).alloc _).alloc _
  have HB1 : Hid (Blk W2 w.heap.size 24 (vb root)) := Lib.hid (by rw [hW2]; exact (Blk.new w _ _).alloc _)
  have HB2 : Hid (Blk W2 (w.heap.size + 1) 24 (vb leaf)) := Lib.hid (by
    have h5 := Blk.new (w.alloc (.cells (vb root).toArray 24)) 24 (vb leaf)
    rw [World.size_alloc] at h5
    rw [hW2]; exact h5)
  have HK2 := Lib.hid hk2
  have HWY := Lib.hid (way_any n i W2 (by omega) hi)
  obtain ⟨K, hK⟩ : ∃ K, K = (wayF i n).length := ⟨_, rfl⟩
  rw [← hK] at HWY hL ⊢
  have hne : ((L : Int) == (K : Int)) = false := by simp; omega
  have hne2 : ((L : Int) != (K : Int)) = true := by simp; omega
  have n1 : ¬ (n : Int) < 1 := by omega
  have n2 : ¬ (9007199254740991 : Int) < (n : Int) := by omega
  have n3 : ¬ (i : Int) < 0 := by omega
  have n4 : ¬ (n : Int) ≤ (i : Int) := by omega
  rw [hW2] at HK2 HWY
  clear hK hW2 hk2 HB1 HB2 hL
  go_enter Tryd.func26, Tryd.ntmps26
  go_wp2_with (go_at_call 49; refine HWY.out.mono ?_; rintro e w3 ⟨Aw, cw, rfl, hmw⟩; have HKW := Lib.hid (HK2.out.trans hmw.2.1 (fun _ _ h => h)); clear hmw)
  go_ret
  exact ⟨rfl, HKW.out⟩
set_option maxRecDepth 100000 in
set_option maxHeartbeats 4000000 in
theorem cgrow_len (w : World) (old root : List Int) (m n : Nat) (hn : n ≤ 9007199254740991) (hmn : m ≤ n) (A : Option Addr) (L c : Nat) (hL : L ≠ if 0 < m then glenF m n true else 0) :
    Calls Tryd.prog 30 #[.int .i64 m, .agg (vb old).toArray, .int .i64 n, .agg (vb root).toArray, .slice A L c] w fun e w' => e = .returned (spotV 270 ((if 0 < m then glenF m n true else 0 : Nat))) ∧ Keeps (fun _ => False) w w' := by
  obtain ⟨W2, hW2⟩ : ∃ W2, W2 = (w.alloc (.cells (vb old).toArray 24)).alloc (.cells (vb root).toArray 24) := ⟨_, rfl⟩
  have hk2 : Keeps (fun _ => False) w W2 := by rw [hW2]; exact ((Keeps.refl _ w).alloc _).alloc _
  have HB1 : Hid (Blk W2 w.heap.size 24 (vb old)) := Lib.hid (by rw [hW2]; exact (Blk.new w _ _).alloc _)
  have HB2 : Hid (Blk W2 (w.heap.size + 1) 24 (vb root)) := Lib.hid (by
    have h5 := Blk.new (w.alloc (.cells (vb old).toArray 24)) 24 (vb root)
    rw [World.size_alloc] at h5
    rw [hW2]; exact h5)
  have HK2 := Lib.hid hk2
  have n1 : ¬ (n : Int) < 0 := by omega
  have n2 : ¬ (9007199254740991 : Int) < (n : Int) := by omega
  have n3 : ¬ (m : Int) < 0 := by omega
  have n4 : ¬ (n : Int) < (m : Int) := by omega
  by_cases hm : 0 < m
  · rw [if_pos hm] at hL ⊢
    have HWY := Lib.hid (gway_any n m true W2 (by omega) hm hmn)
    have hwl := gway_short m n 53 true (by omega)
    unfold glenF at hL ⊢
    obtain ⟨K, hK⟩ : ∃ K, K = (gwayF m n true).1.length := ⟨_, rfl⟩
    rw [← hK] at HWY hL hwl ⊢
    have n5 : (0 : Int) < (m : Int) := by omega
    have w9 : IntKind.i64.wrap ((K : Int) + 1) = (K : Int) + 1 := IntWalk.i64_in _ (by omega)
    rw [hW2] at HK2 HWY
    cases hq : (gwayF m n true).2
    · rw [hq] at HWY hL
      simp only [Bool.false_eq_true, if_false] at hL ⊢
      have hne : ((L : Int) == (K : Int) + 1) = false := by simp; omega
      have hne2 : ((L : Int) != (K : Int) + 1) = true := by simp; omega
      clear hK hW2 hk2 HB1 HB2 hL hq
      go_enter Tryd.func30, Tryd.ntmps30
      go_wp2_with (go_at_call 56; refine HWY.out.mono ?_; rintro e w3 ⟨Aw, cw, rfl, hmw⟩; have HKW := Lib.hid (HK2.out.trans hmw.2.1 (fun _ _ h => h)); clear hmw)
      go_ret
      exact ⟨rfl, HKW.out⟩
    · rw [hq] at HWY hL
      simp only [if_true, Nat.add_zero] at hL ⊢
      have hne : ((L : Int) == (K : Int)) = false := by simp; omega
      have hne2 : ((L : Int) != (K : Int)) = true := by simp; omega
      clear hK hW2 hk2 HB1 HB2 hL hq
      go_enter Tryd.func30, Tryd.ntmps30
      go_wp2_with (go_at_call 56; refine HWY.out.mono ?_; rintro e w3 ⟨Aw, cw, rfl, hmw⟩; have HKW := Lib.hid (HK2.out.trans hmw.2.1 (fun _ _ h => h)); clear hmw)
      go_ret
      exact ⟨rfl, HKW.out⟩
  · rw [if_neg hm] at hL ⊢
    have n5 : ¬ (0 : Int) < (m : Int) := by omega
    have hne : ((L : Int) == 0) = false := by simp; omega
    have hne2 : ((L : Int) != 0) = true := by simp; omega
    rw [hW2] at HK2
    clear hW2 hk2 HB1 HB2 hL
    go_enter Tryd.func30, Tryd.ntmps30
    go_wp2
    go_ret
    exact ⟨rfl, HK2.out⟩
set_option maxRecDepth 100000 in
set_option maxHeartbeats 4000000 in
theorem rentry_len (w : World) (root leaf : List Int) (n i : Nat) (hn : n ≤ 9007199254740991) (hi : i < n) (A : Option Addr) (L c : Nat) (hL : L ≠ (wayF i n).length) :
    Calls Tryd.prog 27 #[.agg (vb root).toArray, .int .i64 n, .int .i64 i, .agg (vb leaf).toArray, .slice A L c] w fun e w' => e = .returned (.tuple #[.int .i64 270, .int .i64 ((wayF i n).length : Nat), .slice none 0 0]) ∧ Keeps (fun _ => False) w w' := by
  have HE := Lib.hid fun W => elen_any n i W (by omega) hi
  obtain ⟨K, hK⟩ : ∃ K, K = (wayF i n).length := ⟨_, rfl⟩
  rw [← hK] at HE hL ⊢
  have hne : ((L : Int) == (K : Int)) = false := by simp; omega
  have hne2 : ((L : Int) != (K : Int)) = true := by simp; omega
  have n1 : ¬ (n : Int) < 1 := by omega
  have n2 : ¬ (9007199254740991 : Int) < (n : Int) := by omega
  have n3 : ¬ (i : Int) < 0 := by omega
  have n4 : ¬ (n : Int) ≤ (i : Int) := by omega
  clear hK hL
  go_enter Tryd.func27, Tryd.ntmps27
  go_wp2_with (go_at_call 53; refine (HE.out _).mono ?_; rintro e w9 ⟨rfl, hw9⟩; subst hw9)
  go_ret3
  exact ⟨rfl, ((Keeps.refl _ w).alloc _).alloc _⟩
set_option maxRecDepth 100000 in
set_option maxHeartbeats 4000000 in
theorem rgrow_len (w : World) (old root : List Int) (m n : Nat) (hn : n ≤ 9007199254740991) (hmn : m ≤ n) (A : Option Addr) (L c : Nat) (hL : L ≠ if 0 < m then glenF m n true else 0) :
    Calls Tryd.prog 31 #[.int .i64 m, .agg (vb old).toArray, .int .i64 n, .agg (vb root).toArray, .slice A L c] w fun e w' => e = .returned (.tuple #[.int .i64 270, .int .i64 ((if 0 < m then glenF m n true else 0 : Nat)), .slice none 0 0]) ∧ Keeps (fun _ => False) w w' := by
  have n1 : ¬ (n : Int) < 0 := by omega
  have n2 : ¬ (9007199254740991 : Int) < (n : Int) := by omega
  have n3 : ¬ (m : Int) < 0 := by omega
  have n4 : ¬ (n : Int) < (m : Int) := by omega
  by_cases hm : 0 < m
  · rw [if_pos hm] at hL ⊢
    have HE := Lib.hid fun W => glen_any n m true W (by omega) hm hmn
    obtain ⟨K, hK⟩ : ∃ K, K = glenF m n true := ⟨_, rfl⟩
    rw [← hK] at HE hL ⊢
    have n5 : (0 : Int) < (m : Int) := by omega
    have hne : ((L : Int) == (K : Int)) = false := by simp; omega
    have hne2 : ((L : Int) != (K : Int)) = true := by simp; omega
    clear hK hL
    go_enter Tryd.func31, Tryd.ntmps31
    go_wp2_with (go_at_call 61; refine (HE.out _).mono ?_; rintro e w9 ⟨rfl, hw9⟩; subst hw9)
    go_ret3
    exact ⟨rfl, ((Keeps.refl _ w).alloc _).alloc _⟩
  · rw [if_neg hm] at hL ⊢
    have n5 : ¬ (0 : Int) < (m : Int) := by omega
    have hne : ((L : Int) == 0) = false := by simp; omega
    have hne2 : ((L : Int) != 0) = true := by simp; omega
    clear hL
    go_enter Tryd.func31, Tryd.ntmps31
    go_wp2
    go_ret3
    exact ⟨rfl, ((Keeps.refl _ w).alloc _).alloc _⟩
set_option maxRecDepth 100000 in
set_option maxHeartbeats 4000000 in
theorem cgrow_zero_A (w : World) (hG : Glob w) (old root : List Int) (hold : IsDig old) (hroot : IsDig root) (n : Nat) (hn : n ≤ 9007199254740991) (A : Option Addr) (c : Nat) (h1 : old ≠ emptyF) :
    Calls Tryd.prog 30 #[.int .i64 0, .agg (vb old).toArray, .int .i64 n, .agg (vb root).toArray, .slice A 0 c] w fun e w' => e = .returned (errno 271) ∧ Keeps (fun _ => False) w w' := by
  have hem : IsDig emptyF := ⟨sumF_length _ _ _, dg_bytes _⟩
  obtain ⟨OV, hOV⟩ : ∃ V, V = vb old := ⟨_, rfl⟩
  have HLOV : Hid (OV.length = 32) := Lib.hid (by rw [hOV, vb_length]; exact hold.1)
  have HIOV : Hid ((Tryd.prog.info? 24).map (·.size) = some OV.length) := Lib.hid (by rw [HLOV.out]; kernel_rfl)
  have HCOV : Hid (∀ u ∈ OV, u.oneCell' = true) := Lib.hid (by rw [hOV]; exact vb_one _)
  obtain ⟨RV, hRV⟩ : ∃ V, V = vb root := ⟨_, rfl⟩
  have HLRV : Hid (RV.length = 32) := Lib.hid (by rw [hRV, vb_length]; exact hroot.1)
  have HIRV : Hid ((Tryd.prog.info? 24).map (·.size) = some RV.length) := Lib.hid (by rw [HLRV.out]; kernel_rfl)
  have HCRV : Hid (∀ u ∈ RV, u.oneCell' = true) := Lib.hid (by rw [hRV]; exact vb_one _)
  obtain ⟨EV, hEV⟩ : ∃ V, V = vb emptyF := ⟨_, rfl⟩
  have HEQ1 : Hid (∀ W, (Op.equalIn 10000 24 (.agg OV.toArray) (.agg EV.toArray)).run Tryd.prog W = .ok false W) := Lib.hid fun W => by
    have := digest_eql W old emptyF hold.1 hem.1
    rw [decide_eq_false h1] at this
    rw [hOV, hEV]
    exact eql_in this
  rw [← hOV, ← hRV]
  obtain ⟨W2, hW2⟩ : ∃ W2, W2 = (w.alloc (.cells OV.toArray 24)).alloc (.cells RV.toArray 24) := ⟨_, rfl⟩
  have hk2 : Keeps (fun _ => False) w W2 := by rw [hW2]; exact ((Keeps.refl _ w).alloc _).alloc _
  have HB1 : Hid (Blk W2 w.heap.size 24 OV) := Lib.hid (by rw [hW2]; exact (Blk.new w _ _).alloc _)
  have HB2 : Hid (Blk W2 (w.heap.size + 1) 24 RV) := Lib.hid (by
    have h5 := Blk.new (w.alloc (.cells OV.toArray 24)) 24 RV
    rw [World.size_alloc] at h5
    rw [hW2]; exact h5)
  have HK2 := Lib.hid hk2
  have HRO : Hid (∀ W, Keeps (fun _ => False) W2 W → W.rangeAt w.heap.size 0 OV) := Lib.hid fun W hW j v hv => by rw [Nat.zero_add, (hW.blk HB1.out (fun h => h)).cell, hv]
  have HRR : Hid (∀ W, Keeps (fun _ => False) W2 W → W.rangeAt (w.heap.size + 1) 0 RV) := Lib.hid fun W hW j v hv => by rw [Nat.zero_add, (hW.blk HB2.out (fun h => h)).cell, hv]
  have HEM : Hid (∀ W, Keeps (fun _ => False) W2 W → Calls Tryd.prog 15 #[] W fun e w' => e = .returned (.agg EV.toArray) ∧ Keeps (fun _ => False) W w') := Lib.hid fun W hW => by
    rw [hEV]
    exact empty_any W ((hG.keep hk2 (fun _ h => h.elim)).keep hW (fun _ h => h.elim))
  have n1 : ¬ (n : Int) < 0 := by omega
  have n2 : ¬ (9007199254740991 : Int) < (n : Int) := by omega
  have n4 : ¬ (n : Int) < (0 : Int) := by omega
  clear hOV hRV hEV hold hroot hem h1 hk2 hG
  go_enter Tryd.func30, Tryd.ntmps30
  go_upto_region 13 with fail
  rw [← hW2]
  clear hW2
  refine wp_region_held_drew (S := Keeps (fun _ => False) W2) (by kernel_rfl) (Keeps.refl (fun _ => False) _).drew (fun hHeld => ?_)
  refine wpAnyH_take (i := 0) (oi := ⟨some 57, _, _, _, _, _⟩) (v := _) rfl (by kernel_rfl) (by kernel_rfl) (by kernel_rfl) (fun _ _ _ h => h) (yieldsIf_load_mid (by rfl) _ _ rfl _ _ rfl OV _ (fun w' h => HRO.out _ h) Tryd.underlying24 rfl HIOV.out) hHeld ?_
  try simp only [Act.put, List.setIfInBounds_toArray, List.set_cons_zero, List.set_cons_succ]
  refine wpAnyH_ready (rs := [1]) (by kernel_rfl) (by simp) ?_
  refine AllReadyH.cons (o := ⟨some 58, _, _, _, _, _⟩) rfl (fun K hK => ?_) AllReadyH.nil
  go_simp
  refine (HEM.out _ hHeld).mono ?_
  rintro e v5 ⟨rfl, hk5⟩
  have hq5 := hHeld.trans hk5 (fun _ _ h => h)
  refine hK.out _ _ hq5 (fun hHeld => ?_)
  clear hK K
  try simp only [Act.put, List.setIfInBounds_toArray, List.set_cons_zero, List.set_cons_succ]
  refine wpAnyH_take (i := 2) (oi := ⟨some 59, _, _, _, _, _⟩) (v := ?_) rfl (by kernel_rfl) (by kernel_rfl) (by kernel_rfl) (fun _ _ _ h => h) (Or.inl ⟨by rfl, ?_⟩) hHeld ?_
  rotate_left
  · intro w' hSw
    have cv := HEQ1.out w'
    go_simp
    first | done | rfl
  try simp only [Act.put, List.setIfInBounds_toArray, List.set_cons_zero, List.set_cons_succ]
  refine wpAnyH_take (i := 3) (oi := ⟨some 60, _, _, _, _, _⟩) (v := ?_) rfl (by kernel_rfl) (by kernel_rfl) (by kernel_rfl) (fun _ _ _ h => h) (Or.inl ⟨by rfl, ?_⟩) hHeld ?_
  rotate_left
  · intro w' hSw
    go_simp
    first | done | rfl
  try simp only [Act.put, List.setIfInBounds_toArray, List.set_cons_zero, List.set_cons_succ]
  refine wpAnyH_take (i := 4) (oi := ⟨some 61, _, _, _, _, _⟩) (v := undef) rfl (by kernel_rfl) (by kernel_rfl) (by kernel_rfl) (fun _ _ _ h => h) (Or.inr ⟨by rfl, rfl⟩) hHeld ?_
  try simp only [Act.put, List.setIfInBounds_toArray, List.set_cons_zero, List.set_cons_succ]
  refine wpAnyH_take (i := 5) (oi := ⟨some 62, _, _, _, _, _⟩) (v := undef) rfl (by kernel_rfl) (by kernel_rfl) (by kernel_rfl) (fun _ _ _ h => h) (Or.inr ⟨by rfl, rfl⟩) hHeld ?_
  try simp only [Act.put, List.setIfInBounds_toArray, List.set_cons_zero, List.set_cons_succ]
  refine wpAnyH_take (i := 6) (oi := ⟨some 63, _, _, _, _, _⟩) (v := undef) rfl (by kernel_rfl) (by kernel_rfl) (by kernel_rfl) (fun _ _ _ h => h) (Or.inr ⟨by rfl, rfl⟩) hHeld ?_
  try simp only [Act.put, List.setIfInBounds_toArray, List.set_cons_zero, List.set_cons_succ]
  refine wpAnyH_take (i := 7) (oi := ⟨some 64, _, _, _, _, _⟩) (v := undef) rfl (by kernel_rfl) (by kernel_rfl) (by kernel_rfl) (fun _ _ _ h => h) (Or.inr ⟨by rfl, rfl⟩) hHeld ?_
  try simp only [Act.put, List.setIfInBounds_toArray, List.set_cons_zero, List.set_cons_succ]
  refine wpAnyH_take (i := 8) (oi := ⟨some 65, _, _, _, _, _⟩) (v := undef) rfl (by kernel_rfl) (by kernel_rfl) (by kernel_rfl) (fun _ _ _ h => h) (Or.inr ⟨by rfl, rfl⟩) hHeld ?_
  try simp only [Act.put, List.setIfInBounds_toArray, List.set_cons_zero, List.set_cons_succ]
  refine wpAnyH_take (i := 9) (oi := ⟨some 66, _, _, _, _, _⟩) (v := undef) rfl (by kernel_rfl) (by kernel_rfl) (by kernel_rfl) (fun _ _ _ h => h) (Or.inr ⟨by rfl, rfl⟩) hHeld ?_
  try simp only [Act.put, List.setIfInBounds_toArray, List.set_cons_zero, List.set_cons_succ]
  refine wpAnyH_take (i := 10) (oi := ⟨some 67, _, _, _, _, _⟩) (v := undef) rfl (by kernel_rfl) (by kernel_rfl) (by kernel_rfl) (fun _ _ _ h => h) (Or.inr ⟨by rfl, rfl⟩) hHeld ?_
  try simp only [Act.put, List.setIfInBounds_toArray, List.set_cons_zero, List.set_cons_succ]
  refine wpAnyH_take (i := 11) (oi := ⟨some 68, _, _, _, _, _⟩) (v := ?_) rfl (by kernel_rfl) (by kernel_rfl) (by kernel_rfl) (fun _ _ _ h => h) (Or.inl ⟨by rfl, ?_⟩) hHeld ?_
  rotate_left
  · intro w' hSw
    go_simp
    first | done | rfl
  try simp only [Act.put, List.setIfInBounds_toArray, List.set_cons_zero, List.set_cons_succ]
  refine wpAnyH_done (by kernel_rfl) ?_ _
  go_wp2
  go_ret
  exact ⟨rfl, HK2.out.trans hq5 (fun _ _ h => h)⟩
set_option maxRecDepth 100000 in
set_option maxHeartbeats 4000000 in
theorem cgrow_zero_B (w : World) (hG : Glob w) (old root : List Int) (hold : IsDig old) (hroot : IsDig root) (n : Nat) (hn : n ≤ 9007199254740991) (A : Option Addr) (c : Nat) (h1 : old = emptyF) (h2 : n ≠ 0) :
    Calls Tryd.prog 30 #[.int .i64 0, .agg (vb old).toArray, .int .i64 n, .agg (vb root).toArray, .slice A 0 c] w fun e w' => e = .returned .nilIface ∧ Keeps (fun _ => False) w w' := by
  have hem : IsDig emptyF := ⟨sumF_length _ _ _, dg_bytes _⟩
  obtain ⟨OV, hOV⟩ : ∃ V, V = vb old := ⟨_, rfl⟩
  have HLOV : Hid (OV.length = 32) := Lib.hid (by rw [hOV, vb_length]; exact hold.1)
  have HIOV : Hid ((Tryd.prog.info? 24).map (·.size) = some OV.length) := Lib.hid (by rw [HLOV.out]; kernel_rfl)
  have HCOV : Hid (∀ u ∈ OV, u.oneCell' = true) := Lib.hid (by rw [hOV]; exact vb_one _)
  obtain ⟨RV, hRV⟩ : ∃ V, V = vb root := ⟨_, rfl⟩
  have HLRV : Hid (RV.length = 32) := Lib.hid (by rw [hRV, vb_length]; exact hroot.1)
  have HIRV : Hid ((Tryd.prog.info? 24).map (·.size) = some RV.length) := Lib.hid (by rw [HLRV.out]; kernel_rfl)
  have HCRV : Hid (∀ u ∈ RV, u.oneCell' = true) := Lib.hid (by rw [hRV]; exact vb_one _)
  obtain ⟨EV, hEV⟩ : ∃ V, V = vb emptyF := ⟨_, rfl⟩
  have HEQ1 : Hid (∀ W, (Op.equalIn 10000 24 (.agg OV.toArray) (.agg EV.toArray)).run Tryd.prog W = .ok true W) := Lib.hid fun W => by
    have := digest_eql W old emptyF hold.1 hem.1
    rw [decide_eq_true h1] at this
    rw [hOV, hEV]
    exact eql_in this
  rw [← hOV, ← hRV]
  obtain ⟨W2, hW2⟩ : ∃ W2, W2 = (w.alloc (.cells OV.toArray 24)).alloc (.cells RV.toArray 24) := ⟨_, rfl⟩
  have hk2 : Keeps (fun _ => False) w W2 := by rw [hW2]; exact ((Keeps.refl _ w).alloc _).alloc _
  have HB1 : Hid (Blk W2 w.heap.size 24 OV) := Lib.hid (by rw [hW2]; exact (Blk.new w _ _).alloc _)
  have HB2 : Hid (Blk W2 (w.heap.size + 1) 24 RV) := Lib.hid (by
    have h5 := Blk.new (w.alloc (.cells OV.toArray 24)) 24 RV
    rw [World.size_alloc] at h5
    rw [hW2]; exact h5)
  have HK2 := Lib.hid hk2
  have HRO : Hid (∀ W, Keeps (fun _ => False) W2 W → W.rangeAt w.heap.size 0 OV) := Lib.hid fun W hW j v hv => by rw [Nat.zero_add, (hW.blk HB1.out (fun h => h)).cell, hv]
  have HRR : Hid (∀ W, Keeps (fun _ => False) W2 W → W.rangeAt (w.heap.size + 1) 0 RV) := Lib.hid fun W hW j v hv => by rw [Nat.zero_add, (hW.blk HB2.out (fun h => h)).cell, hv]
  have HEM : Hid (∀ W, Keeps (fun _ => False) W2 W → Calls Tryd.prog 15 #[] W fun e w' => e = .returned (.agg EV.toArray) ∧ Keeps (fun _ => False) W w') := Lib.hid fun W hW => by
    rw [hEV]
    exact empty_any W ((hG.keep hk2 (fun _ h => h.elim)).keep hW (fun _ h => h.elim))
  have n1 : ¬ (n : Int) < 0 := by omega
  have n2 : ¬ (9007199254740991 : Int) < (n : Int) := by omega
  have n4 : ¬ (n : Int) < (0 : Int) := by omega
  have n7 : ((n : Int) == 0) = false := by simp; omega
  clear hOV hRV hEV hold hroot hem h1 h2 hk2 hG
  go_enter Tryd.func30, Tryd.ntmps30
  go_upto_region 13 with fail
  rw [← hW2]
  clear hW2
  refine wp_region_held_drew (S := Keeps (fun _ => False) W2) (by kernel_rfl) (Keeps.refl (fun _ => False) _).drew (fun hHeld => ?_)
  refine wpAnyH_take (i := 0) (oi := ⟨some 57, _, _, _, _, _⟩) (v := _) rfl (by kernel_rfl) (by kernel_rfl) (by kernel_rfl) (fun _ _ _ h => h) (yieldsIf_load_mid (by rfl) _ _ rfl _ _ rfl OV _ (fun w' h => HRO.out _ h) Tryd.underlying24 rfl HIOV.out) hHeld ?_
  try simp only [Act.put, List.setIfInBounds_toArray, List.set_cons_zero, List.set_cons_succ]
  refine wpAnyH_ready (rs := [1]) (by kernel_rfl) (by simp) ?_
  refine AllReadyH.cons (o := ⟨some 58, _, _, _, _, _⟩) rfl (fun K hK => ?_) AllReadyH.nil
  go_simp
  refine (HEM.out _ hHeld).mono ?_
  rintro e v5 ⟨rfl, hk5⟩
  have hq5 := hHeld.trans hk5 (fun _ _ h => h)
  refine hK.out _ _ hq5 (fun hHeld => ?_)
  clear hK K
  try simp only [Act.put, List.setIfInBounds_toArray, List.set_cons_zero, List.set_cons_succ]
  refine wpAnyH_take (i := 2) (oi := ⟨some 59, _, _, _, _, _⟩) (v := ?_) rfl (by kernel_rfl) (by kernel_rfl) (by kernel_rfl) (fun _ _ _ h => h) (Or.inl ⟨by rfl, ?_⟩) hHeld ?_
  rotate_left
  · intro w' hSw
    have cv := HEQ1.out w'
    go_simp
    first | done | rfl
  try simp only [Act.put, List.setIfInBounds_toArray, List.set_cons_zero, List.set_cons_succ]
  refine wpAnyH_take (i := 3) (oi := ⟨some 60, _, _, _, _, _⟩) (v := ?_) rfl (by kernel_rfl) (by kernel_rfl) (by kernel_rfl) (fun _ _ _ h => h) (Or.inl ⟨by rfl, ?_⟩) hHeld ?_
  rotate_left
  · intro w' hSw
    go_simp
    first | done | rfl
  try simp only [Act.put, List.setIfInBounds_toArray, List.set_cons_zero, List.set_cons_succ]
  refine wpAnyH_take (i := 4) (oi := ⟨some 61, _, _, _, _, _⟩) (v := ?_) rfl (by kernel_rfl) (by kernel_rfl) (by kernel_rfl) (fun _ _ _ h => h) (Or.inl ⟨by rfl, ?_⟩) hHeld ?_
  rotate_left
  · intro w' hSw
    go_simp
    first | done | rfl
  try simp only [Act.put, List.setIfInBounds_toArray, List.set_cons_zero, List.set_cons_succ]
  refine wpAnyH_take (i := 5) (oi := ⟨some 62, _, _, _, _, _⟩) (v := ?_) rfl (by kernel_rfl) (by kernel_rfl) (by kernel_rfl) (fun _ _ _ h => h) (Or.inl ⟨by rfl, ?_⟩) hHeld ?_
  rotate_left
  · intro w' hSw
    go_simp
    first | done | rfl
  try simp only [Act.put, List.setIfInBounds_toArray, List.set_cons_zero, List.set_cons_succ]
  refine wpAnyH_take (i := 6) (oi := ⟨some 63, _, _, _, _, _⟩) (v := ?_) rfl (by kernel_rfl) (by kernel_rfl) (by kernel_rfl) (fun _ _ _ h => h) (Or.inl ⟨by rfl, ?_⟩) hHeld ?_
  rotate_left
  · intro w' hSw
    go_simp
    first | done | rfl
  try simp only [Act.put, List.setIfInBounds_toArray, List.set_cons_zero, List.set_cons_succ]
  refine wpAnyH_take (i := 7) (oi := ⟨some 64, _, _, _, _, _⟩) (v := undef) rfl (by kernel_rfl) (by kernel_rfl) (by kernel_rfl) (fun _ _ _ h => h) (Or.inr ⟨by rfl, rfl⟩) hHeld ?_
  try simp only [Act.put, List.setIfInBounds_toArray, List.set_cons_zero, List.set_cons_succ]
  refine wpAnyH_take (i := 8) (oi := ⟨some 65, _, _, _, _, _⟩) (v := undef) rfl (by kernel_rfl) (by kernel_rfl) (by kernel_rfl) (fun _ _ _ h => h) (Or.inr ⟨by rfl, rfl⟩) hHeld ?_
  try simp only [Act.put, List.setIfInBounds_toArray, List.set_cons_zero, List.set_cons_succ]
  refine wpAnyH_take (i := 9) (oi := ⟨some 66, _, _, _, _, _⟩) (v := undef) rfl (by kernel_rfl) (by kernel_rfl) (by kernel_rfl) (fun _ _ _ h => h) (Or.inr ⟨by rfl, rfl⟩) hHeld ?_
  try simp only [Act.put, List.setIfInBounds_toArray, List.set_cons_zero, List.set_cons_succ]
  refine wpAnyH_take (i := 10) (oi := ⟨some 67, _, _, _, _, _⟩) (v := ?_) rfl (by kernel_rfl) (by kernel_rfl) (by kernel_rfl) (fun _ _ _ h => h) (Or.inl ⟨by rfl, ?_⟩) hHeld ?_
  rotate_left
  · intro w' hSw
    go_simp
    first | done | rfl
  try simp only [Act.put, List.setIfInBounds_toArray, List.set_cons_zero, List.set_cons_succ]
  refine wpAnyH_take (i := 11) (oi := ⟨some 68, _, _, _, _, _⟩) (v := ?_) rfl (by kernel_rfl) (by kernel_rfl) (by kernel_rfl) (fun _ _ _ h => h) (Or.inl ⟨by rfl, ?_⟩) hHeld ?_
  rotate_left
  · intro w' hSw
    go_simp
    first | done | rfl
  try simp only [Act.put, List.setIfInBounds_toArray, List.set_cons_zero, List.set_cons_succ]
  refine wpAnyH_done (by kernel_rfl) ?_ _
  go_wp2
  go_ret
  exact ⟨rfl, HK2.out.trans hq5 (fun _ _ h => h)⟩
set_option maxRecDepth 100000 in
set_option maxHeartbeats 4000000 in
theorem cgrow_zero_C (w : World) (hG : Glob w) (old root : List Int) (hold : IsDig old) (hroot : IsDig root) (n : Nat) (hn : n ≤ 9007199254740991) (A : Option Addr) (c : Nat) (h1 : old = emptyF) (h2 : n = 0) (h3 : root = emptyF) :
    Calls Tryd.prog 30 #[.int .i64 0, .agg (vb old).toArray, .int .i64 n, .agg (vb root).toArray, .slice A 0 c] w fun e w' => e = .returned .nilIface ∧ Keeps (fun _ => False) w w' := by
  have hem : IsDig emptyF := ⟨sumF_length _ _ _, dg_bytes _⟩
  obtain ⟨OV, hOV⟩ : ∃ V, V = vb old := ⟨_, rfl⟩
  have HLOV : Hid (OV.length = 32) := Lib.hid (by rw [hOV, vb_length]; exact hold.1)
  have HIOV : Hid ((Tryd.prog.info? 24).map (·.size) = some OV.length) := Lib.hid (by rw [HLOV.out]; kernel_rfl)
  have HCOV : Hid (∀ u ∈ OV, u.oneCell' = true) := Lib.hid (by rw [hOV]; exact vb_one _)
  obtain ⟨RV, hRV⟩ : ∃ V, V = vb root := ⟨_, rfl⟩
  have HLRV : Hid (RV.length = 32) := Lib.hid (by rw [hRV, vb_length]; exact hroot.1)
  have HIRV : Hid ((Tryd.prog.info? 24).map (·.size) = some RV.length) := Lib.hid (by rw [HLRV.out]; kernel_rfl)
  have HCRV : Hid (∀ u ∈ RV, u.oneCell' = true) := Lib.hid (by rw [hRV]; exact vb_one _)
  obtain ⟨EV, hEV⟩ : ∃ V, V = vb emptyF := ⟨_, rfl⟩
  have HEQ1 : Hid (∀ W, (Op.equalIn 10000 24 (.agg OV.toArray) (.agg EV.toArray)).run Tryd.prog W = .ok true W) := Lib.hid fun W => by
    have := digest_eql W old emptyF hold.1 hem.1
    rw [decide_eq_true h1] at this
    rw [hOV, hEV]
    exact eql_in this
  have HEQ2 : Hid (∀ W, (Op.equalIn 10000 24 (.agg RV.toArray) (.agg OV.toArray)).run Tryd.prog W = .ok true W) := Lib.hid fun W => by
    have := digest_eql W root old hroot.1 hold.1
    rw [decide_eq_true (by rw [h1]; exact h3)] at this
    rw [hRV, hOV]
    exact eql_in this
  rw [← hOV, ← hRV]
  obtain ⟨W2, hW2⟩ : ∃ W2, W2 = (w.alloc (.cells OV.toArray 24)).alloc (.cells RV.toArray 24) := ⟨_, rfl⟩
  have hk2 : Keeps (fun _ => False) w W2 := by rw [hW2]; exact ((Keeps.refl _ w).alloc _).alloc _
  have HB1 : Hid (Blk W2 w.heap.size 24 OV) := Lib.hid (by rw [hW2]; exact (Blk.new w _ _).alloc _)
  have HB2 : Hid (Blk W2 (w.heap.size + 1) 24 RV) := Lib.hid (by
    have h5 := Blk.new (w.alloc (.cells OV.toArray 24)) 24 RV
    rw [World.size_alloc] at h5
    rw [hW2]; exact h5)
  have HK2 := Lib.hid hk2
  have HRO : Hid (∀ W, Keeps (fun _ => False) W2 W → W.rangeAt w.heap.size 0 OV) := Lib.hid fun W hW j v hv => by rw [Nat.zero_add, (hW.blk HB1.out (fun h => h)).cell, hv]
  have HRR : Hid (∀ W, Keeps (fun _ => False) W2 W → W.rangeAt (w.heap.size + 1) 0 RV) := Lib.hid fun W hW j v hv => by rw [Nat.zero_add, (hW.blk HB2.out (fun h => h)).cell, hv]
  have HEM : Hid (∀ W, Keeps (fun _ => False) W2 W → Calls Tryd.prog 15 #[] W fun e w' => e = .returned (.agg EV.toArray) ∧ Keeps (fun _ => False) W w') := Lib.hid fun W hW => by
    rw [hEV]
    exact empty_any W ((hG.keep hk2 (fun _ h => h.elim)).keep hW (fun _ h => h.elim))
  have n1 : ¬ (n : Int) < 0 := by omega
  have n2 : ¬ (9007199254740991 : Int) < (n : Int) := by omega
  have n4 : ¬ (n : Int) < (0 : Int) := by omega
  subst h2
  clear hOV hRV hEV hold hroot hem h1 h3 hk2 hG
  go_enter Tryd.func30, Tryd.ntmps30
  go_upto_region 13 with fail
  rw [← hW2]
  clear hW2
  refine wp_region_held_drew (S := Keeps (fun _ => False) W2) (by kernel_rfl) (Keeps.refl (fun _ => False) _).drew (fun hHeld => ?_)
  refine wpAnyH_take (i := 0) (oi := ⟨some 57, _, _, _, _, _⟩) (v := _) rfl (by kernel_rfl) (by kernel_rfl) (by kernel_rfl) (fun _ _ _ h => h) (yieldsIf_load_mid (by rfl) _ _ rfl _ _ rfl OV _ (fun w' h => HRO.out _ h) Tryd.underlying24 rfl HIOV.out) hHeld ?_
  try simp only [Act.put, List.setIfInBounds_toArray, List.set_cons_zero, List.set_cons_succ]
  refine wpAnyH_ready (rs := [1]) (by kernel_rfl) (by simp) ?_
  refine AllReadyH.cons (o := ⟨some 58, _, _, _, _, _⟩) rfl (fun K hK => ?_) AllReadyH.nil
  go_simp
  refine (HEM.out _ hHeld).mono ?_
  rintro e v5 ⟨rfl, hk5⟩
  have hq5 := hHeld.trans hk5 (fun _ _ h => h)
  refine hK.out _ _ hq5 (fun hHeld => ?_)
  clear hK K
  try simp only [Act.put, List.setIfInBounds_toArray, List.set_cons_zero, List.set_cons_succ]
  refine wpAnyH_take (i := 2) (oi := ⟨some 59, _, _, _, _, _⟩) (v := ?_) rfl (by kernel_rfl) (by kernel_rfl) (by kernel_rfl) (fun _ _ _ h => h) (Or.inl ⟨by rfl, ?_⟩) hHeld ?_
  rotate_left
  · intro w' hSw
    have cv := HEQ1.out w'
    go_simp
    first | done | rfl
  try simp only [Act.put, List.setIfInBounds_toArray, List.set_cons_zero, List.set_cons_succ]
  refine wpAnyH_take (i := 3) (oi := ⟨some 60, _, _, _, _, _⟩) (v := ?_) rfl (by kernel_rfl) (by kernel_rfl) (by kernel_rfl) (fun _ _ _ h => h) (Or.inl ⟨by rfl, ?_⟩) hHeld ?_
  rotate_left
  · intro w' hSw
    go_simp
    first | done | rfl
  try simp only [Act.put, List.setIfInBounds_toArray, List.set_cons_zero, List.set_cons_succ]
  refine wpAnyH_take (i := 4) (oi := ⟨some 61, _, _, _, _, _⟩) (v := ?_) rfl (by kernel_rfl) (by kernel_rfl) (by kernel_rfl) (fun _ _ _ h => h) (Or.inl ⟨by rfl, ?_⟩) hHeld ?_
  rotate_left
  · intro w' hSw
    go_simp
    first | done | rfl
  try simp only [Act.put, List.setIfInBounds_toArray, List.set_cons_zero, List.set_cons_succ]
  refine wpAnyH_take (i := 5) (oi := ⟨some 62, _, _, _, _, _⟩) (v := ?_) rfl (by kernel_rfl) (by kernel_rfl) (by kernel_rfl) (fun _ _ _ h => h) (Or.inl ⟨by rfl, ?_⟩) hHeld ?_
  rotate_left
  · intro w' hSw
    go_simp
    first | done | rfl
  try simp only [Act.put, List.setIfInBounds_toArray, List.set_cons_zero, List.set_cons_succ]
  refine wpAnyH_take (i := 6) (oi := ⟨some 63, _, _, _, _, _⟩) (v := ?_) rfl (by kernel_rfl) (by kernel_rfl) (by kernel_rfl) (fun _ _ _ h => h) (Or.inl ⟨by rfl, ?_⟩) hHeld ?_
  rotate_left
  · intro w' hSw
    go_simp
    first | done | rfl
  try simp only [Act.put, List.setIfInBounds_toArray, List.set_cons_zero, List.set_cons_succ]
  refine wpAnyH_take (i := 7) (oi := ⟨some 64, _, _, _, _, _⟩) (v := _) rfl (by kernel_rfl) (by kernel_rfl) (by kernel_rfl) (fun _ _ _ h => h) (yieldsIf_load_mid (by rfl) _ _ rfl _ _ rfl RV _ (fun w' h => HRR.out _ h) Tryd.underlying24 rfl HIRV.out) hHeld ?_
  try simp only [Act.put, List.setIfInBounds_toArray, List.set_cons_zero, List.set_cons_succ]
  refine wpAnyH_take (i := 8) (oi := ⟨some 65, _, _, _, _, _⟩) (v := _) rfl (by kernel_rfl) (by kernel_rfl) (by kernel_rfl) (fun _ _ _ h => h) (yieldsIf_load_mid (by rfl) _ _ rfl _ _ rfl OV _ (fun w' h => HRO.out _ h) Tryd.underlying24 rfl HIOV.out) hHeld ?_
  try simp only [Act.put, List.setIfInBounds_toArray, List.set_cons_zero, List.set_cons_succ]
  refine wpAnyH_take (i := 9) (oi := ⟨some 66, _, _, _, _, _⟩) (v := ?_) rfl (by kernel_rfl) (by kernel_rfl) (by kernel_rfl) (fun _ _ _ h => h) (Or.inl ⟨by rfl, ?_⟩) hHeld ?_
  rotate_left
  · intro w' hSw
    have cv := HEQ2.out w'
    go_simp
    first | done | rfl
  try simp only [Act.put, List.setIfInBounds_toArray, List.set_cons_zero, List.set_cons_succ]
  refine wpAnyH_take (i := 10) (oi := ⟨some 67, _, _, _, _, _⟩) (v := ?_) rfl (by kernel_rfl) (by kernel_rfl) (by kernel_rfl) (fun _ _ _ h => h) (Or.inl ⟨by rfl, ?_⟩) hHeld ?_
  rotate_left
  · intro w' hSw
    go_simp
    first | done | rfl
  try simp only [Act.put, List.setIfInBounds_toArray, List.set_cons_zero, List.set_cons_succ]
  refine wpAnyH_take (i := 11) (oi := ⟨some 68, _, _, _, _, _⟩) (v := ?_) rfl (by kernel_rfl) (by kernel_rfl) (by kernel_rfl) (fun _ _ _ h => h) (Or.inl ⟨by rfl, ?_⟩) hHeld ?_
  rotate_left
  · intro w' hSw
    go_simp
    first | done | rfl
  try simp only [Act.put, List.setIfInBounds_toArray, List.set_cons_zero, List.set_cons_succ]
  refine wpAnyH_done (by kernel_rfl) ?_ _
  go_wp2
  go_ret
  exact ⟨rfl, HK2.out.trans hq5 (fun _ _ h => h)⟩
set_option maxRecDepth 100000 in
set_option maxHeartbeats 4000000 in
theorem cgrow_zero_D (w : World) (hG : Glob w) (old root : List Int) (hold : IsDig old) (hroot : IsDig root) (n : Nat) (hn : n ≤ 9007199254740991) (A : Option Addr) (c : Nat) (h1 : old = emptyF) (h2 : n = 0) (h3 : root ≠ emptyF) :
    Calls Tryd.prog 30 #[.int .i64 0, .agg (vb old).toArray, .int .i64 n, .agg (vb root).toArray, .slice A 0 c] w fun e w' => e = .returned (errno 271) ∧ Keeps (fun _ => False) w w' := by
  have hem : IsDig emptyF := ⟨sumF_length _ _ _, dg_bytes _⟩
  obtain ⟨OV, hOV⟩ : ∃ V, V = vb old := ⟨_, rfl⟩
  have HLOV : Hid (OV.length = 32) := Lib.hid (by rw [hOV, vb_length]; exact hold.1)
  have HIOV : Hid ((Tryd.prog.info? 24).map (·.size) = some OV.length) := Lib.hid (by rw [HLOV.out]; kernel_rfl)
  have HCOV : Hid (∀ u ∈ OV, u.oneCell' = true) := Lib.hid (by rw [hOV]; exact vb_one _)
  obtain ⟨RV, hRV⟩ : ∃ V, V = vb root := ⟨_, rfl⟩
  have HLRV : Hid (RV.length = 32) := Lib.hid (by rw [hRV, vb_length]; exact hroot.1)
  have HIRV : Hid ((Tryd.prog.info? 24).map (·.size) = some RV.length) := Lib.hid (by rw [HLRV.out]; kernel_rfl)
  have HCRV : Hid (∀ u ∈ RV, u.oneCell' = true) := Lib.hid (by rw [hRV]; exact vb_one _)
  obtain ⟨EV, hEV⟩ : ∃ V, V = vb emptyF := ⟨_, rfl⟩
  have HEQ1 : Hid (∀ W, (Op.equalIn 10000 24 (.agg OV.toArray) (.agg EV.toArray)).run Tryd.prog W = .ok true W) := Lib.hid fun W => by
    have := digest_eql W old emptyF hold.1 hem.1
    rw [decide_eq_true h1] at this
    rw [hOV, hEV]
    exact eql_in this
  have HEQ2 : Hid (∀ W, (Op.equalIn 10000 24 (.agg RV.toArray) (.agg OV.toArray)).run Tryd.prog W = .ok false W) := Lib.hid fun W => by
    have := digest_eql W root old hroot.1 hold.1
    rw [decide_eq_false (by rw [h1]; exact h3)] at this
    rw [hRV, hOV]
    exact eql_in this
  rw [← hOV, ← hRV]
  obtain ⟨W2, hW2⟩ : ∃ W2, W2 = (w.alloc (.cells OV.toArray 24)).alloc (.cells RV.toArray 24) := ⟨_, rfl⟩
  have hk2 : Keeps (fun _ => False) w W2 := by rw [hW2]; exact ((Keeps.refl _ w).alloc _).alloc _
  have HB1 : Hid (Blk W2 w.heap.size 24 OV) := Lib.hid (by rw [hW2]; exact (Blk.new w _ _).alloc _)
  have HB2 : Hid (Blk W2 (w.heap.size + 1) 24 RV) := Lib.hid (by
    have h5 := Blk.new (w.alloc (.cells OV.toArray 24)) 24 RV
    rw [World.size_alloc] at h5
    rw [hW2]; exact h5)
  have HK2 := Lib.hid hk2
  have HRO : Hid (∀ W, Keeps (fun _ => False) W2 W → W.rangeAt w.heap.size 0 OV) := Lib.hid fun W hW j v hv => by rw [Nat.zero_add, (hW.blk HB1.out (fun h => h)).cell, hv]
  have HRR : Hid (∀ W, Keeps (fun _ => False) W2 W → W.rangeAt (w.heap.size + 1) 0 RV) := Lib.hid fun W hW j v hv => by rw [Nat.zero_add, (hW.blk HB2.out (fun h => h)).cell, hv]
  have HEM : Hid (∀ W, Keeps (fun _ => False) W2 W → Calls Tryd.prog 15 #[] W fun e w' => e = .returned (.agg EV.toArray) ∧ Keeps (fun _ => False) W w') := Lib.hid fun W hW => by
    rw [hEV]
    exact empty_any W ((hG.keep hk2 (fun _ h => h.elim)).keep hW (fun _ h => h.elim))
  have n1 : ¬ (n : Int) < 0 := by omega
  have n2 : ¬ (9007199254740991 : Int) < (n : Int) := by omega
  have n4 : ¬ (n : Int) < (0 : Int) := by omega
  subst h2
  clear hOV hRV hEV hold hroot hem h1 h3 hk2 hG
  go_enter Tryd.func30, Tryd.ntmps30
  go_upto_region 13 with fail
  rw [← hW2]
  clear hW2
  refine wp_region_held_drew (S := Keeps (fun _ => False) W2) (by kernel_rfl) (Keeps.refl (fun _ => False) _).drew (fun hHeld => ?_)
  refine wpAnyH_take (i := 0) (oi := ⟨some 57, _, _, _, _, _⟩) (v := _) rfl (by kernel_rfl) (by kernel_rfl) (by kernel_rfl) (fun _ _ _ h => h) (yieldsIf_load_mid (by rfl) _ _ rfl _ _ rfl OV _ (fun w' h => HRO.out _ h) Tryd.underlying24 rfl HIOV.out) hHeld ?_
  try simp only [Act.put, List.setIfInBounds_toArray, List.set_cons_zero, List.set_cons_succ]
  refine wpAnyH_ready (rs := [1]) (by kernel_rfl) (by simp) ?_
  refine AllReadyH.cons (o := ⟨some 58, _, _, _, _, _⟩) rfl (fun K hK => ?_) AllReadyH.nil
  go_simp
  refine (HEM.out _ hHeld).mono ?_
  rintro e v5 ⟨rfl, hk5⟩
  have hq5 := hHeld.trans hk5 (fun _ _ h => h)
  refine hK.out _ _ hq5 (fun hHeld => ?_)
  clear hK K
  try simp only [Act.put, List.setIfInBounds_toArray, List.set_cons_zero, List.set_cons_succ]
  refine wpAnyH_take (i := 2) (oi := ⟨some 59, _, _, _, _, _⟩) (v := ?_) rfl (by kernel_rfl) (by kernel_rfl) (by kernel_rfl) (fun _ _ _ h => h) (Or.inl ⟨by rfl, ?_⟩) hHeld ?_
  rotate_left
  · intro w' hSw
    have cv := HEQ1.out w'
    go_simp
    first | done | rfl
  try simp only [Act.put, List.setIfInBounds_toArray, List.set_cons_zero, List.set_cons_succ]
  refine wpAnyH_take (i := 3) (oi := ⟨some 60, _, _, _, _, _⟩) (v := ?_) rfl (by kernel_rfl) (by kernel_rfl) (by kernel_rfl) (fun _ _ _ h => h) (Or.inl ⟨by rfl, ?_⟩) hHeld ?_
  rotate_left
  · intro w' hSw
    go_simp
    first | done | rfl
  try simp only [Act.put, List.setIfInBounds_toArray, List.set_cons_zero, List.set_cons_succ]
  refine wpAnyH_take (i := 4) (oi := ⟨some 61, _, _, _, _, _⟩) (v := ?_) rfl (by kernel_rfl) (by kernel_rfl) (by kernel_rfl) (fun _ _ _ h => h) (Or.inl ⟨by rfl, ?_⟩) hHeld ?_
  rotate_left
  · intro w' hSw
    go_simp
    first | done | rfl
  try simp only [Act.put, List.setIfInBounds_toArray, List.set_cons_zero, List.set_cons_succ]
  refine wpAnyH_take (i := 5) (oi := ⟨some 62, _, _, _, _, _⟩) (v := ?_) rfl (by kernel_rfl) (by kernel_rfl) (by kernel_rfl) (fun _ _ _ h => h) (Or.inl ⟨by rfl, ?_⟩) hHeld ?_
  rotate_left
  · intro w' hSw
    go_simp
    first | done | rfl
  try simp only [Act.put, List.setIfInBounds_toArray, List.set_cons_zero, List.set_cons_succ]
  refine wpAnyH_take (i := 6) (oi := ⟨some 63, _, _, _, _, _⟩) (v := ?_) rfl (by kernel_rfl) (by kernel_rfl) (by kernel_rfl) (fun _ _ _ h => h) (Or.inl ⟨by rfl, ?_⟩) hHeld ?_
  rotate_left
  · intro w' hSw
    go_simp
    first | done | rfl
  try simp only [Act.put, List.setIfInBounds_toArray, List.set_cons_zero, List.set_cons_succ]
  refine wpAnyH_take (i := 7) (oi := ⟨some 64, _, _, _, _, _⟩) (v := _) rfl (by kernel_rfl) (by kernel_rfl) (by kernel_rfl) (fun _ _ _ h => h) (yieldsIf_load_mid (by rfl) _ _ rfl _ _ rfl RV _ (fun w' h => HRR.out _ h) Tryd.underlying24 rfl HIRV.out) hHeld ?_
  try simp only [Act.put, List.setIfInBounds_toArray, List.set_cons_zero, List.set_cons_succ]
  refine wpAnyH_take (i := 8) (oi := ⟨some 65, _, _, _, _, _⟩) (v := _) rfl (by kernel_rfl) (by kernel_rfl) (by kernel_rfl) (fun _ _ _ h => h) (yieldsIf_load_mid (by rfl) _ _ rfl _ _ rfl OV _ (fun w' h => HRO.out _ h) Tryd.underlying24 rfl HIOV.out) hHeld ?_
  try simp only [Act.put, List.setIfInBounds_toArray, List.set_cons_zero, List.set_cons_succ]
  refine wpAnyH_take (i := 9) (oi := ⟨some 66, _, _, _, _, _⟩) (v := ?_) rfl (by kernel_rfl) (by kernel_rfl) (by kernel_rfl) (fun _ _ _ h => h) (Or.inl ⟨by rfl, ?_⟩) hHeld ?_
  rotate_left
  · intro w' hSw
    have cv := HEQ2.out w'
    go_simp
    first | done | rfl
  try simp only [Act.put, List.setIfInBounds_toArray, List.set_cons_zero, List.set_cons_succ]
  refine wpAnyH_take (i := 10) (oi := ⟨some 67, _, _, _, _, _⟩) (v := ?_) rfl (by kernel_rfl) (by kernel_rfl) (by kernel_rfl) (fun _ _ _ h => h) (Or.inl ⟨by rfl, ?_⟩) hHeld ?_
  rotate_left
  · intro w' hSw
    go_simp
    first | done | rfl
  try simp only [Act.put, List.setIfInBounds_toArray, List.set_cons_zero, List.set_cons_succ]
  refine wpAnyH_take (i := 11) (oi := ⟨some 68, _, _, _, _, _⟩) (v := ?_) rfl (by kernel_rfl) (by kernel_rfl) (by kernel_rfl) (fun _ _ _ h => h) (Or.inl ⟨by rfl, ?_⟩) hHeld ?_
  rotate_left
  · intro w' hSw
    go_simp
    first | done | rfl
  try simp only [Act.put, List.setIfInBounds_toArray, List.set_cons_zero, List.set_cons_succ]
  refine wpAnyH_done (by kernel_rfl) ?_ _
  go_wp2
  go_ret
  exact ⟨rfl, HK2.out.trans hq5 (fun _ _ h => h)⟩
set_option maxRecDepth 100000 in
set_option maxHeartbeats 4000000 in
theorem rgrow_zero_A (w : World) (old root : List Int) (hold : IsDig old) (hroot : IsDig root) (n : Nat) (hn : n ≤ 9007199254740991) (A : Option Addr) (c : Nat) (h1 : old ≠ emptyF) :
    Calls Tryd.prog 31 #[.int .i64 0, .agg (vb old).toArray, .int .i64 n, .agg (vb root).toArray, .slice A 0 c] w fun e w' => e = .returned (.tuple #[.int .i64 271, .int .i64 (-1), .slice none 0 0]) ∧ Keeps (fun _ => False) w w' := by
  have hem : IsDig emptyF := ⟨sumF_length _ _ _, dg_bytes _⟩
  obtain ⟨OV, hOV⟩ : ∃ V, V = vb old := ⟨_, rfl⟩
  have HLOV : Hid (OV.length = 32) := Lib.hid (by rw [hOV, vb_length]; exact hold.1)
  have HIOV : Hid ((Tryd.prog.info? 23).map (·.size) = some OV.length) := Lib.hid (by rw [HLOV.out]; kernel_rfl)
  have HCOV : Hid (∀ u ∈ OV, u.oneCell' = true) := Lib.hid (by rw [hOV]; exact vb_one _)
  obtain ⟨RV, hRV⟩ : ∃ V, V = vb root := ⟨_, rfl⟩
  have HLRV : Hid (RV.length = 32) := Lib.hid (by rw [hRV, vb_length]; exact hroot.1)
  have HIRV : Hid ((Tryd.prog.info? 23).map (·.size) = some RV.length) := Lib.hid (by rw [HLRV.out]; kernel_rfl)
  have HCRV : Hid (∀ u ∈ RV, u.oneCell' = true) := Lib.hid (by rw [hRV]; exact vb_one _)
  obtain ⟨EV, hEV⟩ : ∃ V, V = vb emptyF := ⟨_, rfl⟩
  have HEQ1 : Hid (∀ W, (Op.equalIn 10000 23 (.agg OV.toArray) (.agg EV.toArray)).run Tryd.prog W = .ok false W) := Lib.hid fun W => by
    have := run_eql_row W Tryd.underlying23 Tryd.underlying5 (by kernel_rfl) old emptyF hold.1 hem.1
    rw [decide_eq_false h1] at this
    rw [hOV, hEV]
    exact eql_in this
  rw [← hOV, ← hRV]
  obtain ⟨W2, hW2⟩ : ∃ W2, W2 = (w.alloc (.cells OV.toArray 23)).alloc (.cells RV.toArray 23) := ⟨_, rfl⟩
  have hk2 : Keeps (fun _ => False) w W2 := by rw [hW2]; exact ((Keeps.refl _ w).alloc _).alloc _
  have HB1 : Hid (Blk W2 w.heap.size 23 OV) := Lib.hid (by rw [hW2]; exact (Blk.new w _ _).alloc _)
  have HB2 : Hid (Blk W2 (w.heap.size + 1) 23 RV) := Lib.hid (by
    have h5 := Blk.new (w.alloc (.cells OV.toArray 23)) 23 RV
    rw [World.size_alloc] at h5
    rw [hW2]; exact h5)
  have HK2 := Lib.hid hk2
  have HRO : Hid (∀ W, Keeps (fun _ => False) W2 W → W.rangeAt w.heap.size 0 OV) := Lib.hid fun W hW j v hv => by rw [Nat.zero_add, (hW.blk HB1.out (fun h => h)).cell, hv]
  have HRR : Hid (∀ W, Keeps (fun _ => False) W2 W → W.rangeAt (w.heap.size + 1) 0 RV) := Lib.hid fun W hW j v hv => by rw [Nat.zero_add, (hW.blk HB2.out (fun h => h)).cell, hv]
  have HEM : Hid (∀ W, Keeps (fun _ => False) W2 W → Calls Tryd.prog 16 #[] W fun e w' => e = .returned (.agg EV.toArray) ∧ Keeps (fun _ => False) W w') := Lib.hid fun W hW => by
    rw [hEV]
    exact rempty_any W
  have n1 : ¬ (n : Int) < 0 := by omega
  have n2 : ¬ (9007199254740991 : Int) < (n : Int) := by omega
  have n4 : ¬ (n : Int) < (0 : Int) := by omega
  clear hOV hRV hEV hold hroot hem h1 hk2
  go_enter Tryd.func31, Tryd.ntmps31
  go_upto_region 9 with fail
  rw [← hW2]
  clear hW2
  refine wp_region_held_drew (S := Keeps (fun _ => False) W2) (by kernel_rfl) (Keeps.refl (fun _ => False) _).drew (fun hHeld => ?_)
  refine wpAnyH_take (i := 0) (oi := ⟨some 44, _, _, _, _, _⟩) (v := _) rfl (by kernel_rfl) (by kernel_rfl) (by kernel_rfl) (fun _ _ _ h => h) (yieldsIf_load_mid (by rfl) _ _ rfl _ _ rfl OV _ (fun w' h => HRO.out _ h) Tryd.underlying23 rfl HIOV.out) hHeld ?_
  try simp only [Act.put, List.setIfInBounds_toArray, List.set_cons_zero, List.set_cons_succ]
  refine wpAnyH_ready (rs := [1]) (by kernel_rfl) (by simp) ?_
  refine AllReadyH.cons (o := ⟨some 45, _, _, _, _, _⟩) rfl (fun K hK => ?_) AllReadyH.nil
  go_simp
  refine (HEM.out _ hHeld).mono ?_
  rintro e v5 ⟨rfl, hk5⟩
  have hq5 := hHeld.trans hk5 (fun _ _ h => h)
  refine hK.out _ _ hq5 (fun hHeld => ?_)
  clear hK K
  try simp only [Act.put, List.setIfInBounds_toArray, List.set_cons_zero, List.set_cons_succ]
  refine wpAnyH_take (i := 2) (oi := ⟨some 46, _, _, _, _, _⟩) (v := ?_) rfl (by kernel_rfl) (by kernel_rfl) (by kernel_rfl) (fun _ _ _ h => h) (Or.inl ⟨by rfl, ?_⟩) hHeld ?_
  rotate_left
  · intro w' hSw
    have cv := HEQ1.out w'
    go_simp
    first | done | rfl
  try simp only [Act.put, List.setIfInBounds_toArray, List.set_cons_zero, List.set_cons_succ]
  refine wpAnyH_take (i := 3) (oi := ⟨some 47, _, _, _, _, _⟩) (v := ?_) rfl (by kernel_rfl) (by kernel_rfl) (by kernel_rfl) (fun _ _ _ h => h) (Or.inl ⟨by rfl, ?_⟩) hHeld ?_
  rotate_left
  · intro w' hSw
    go_simp
    first | done | rfl
  try simp only [Act.put, List.setIfInBounds_toArray, List.set_cons_zero, List.set_cons_succ]
  refine wpAnyH_take (i := 4) (oi := ⟨some 48, _, _, _, _, _⟩) (v := undef) rfl (by kernel_rfl) (by kernel_rfl) (by kernel_rfl) (fun _ _ _ h => h) (Or.inr ⟨by rfl, rfl⟩) hHeld ?_
  try simp only [Act.put, List.setIfInBounds_toArray, List.set_cons_zero, List.set_cons_succ]
  refine wpAnyH_take (i := 5) (oi := ⟨some 49, _, _, _, _, _⟩) (v := undef) rfl (by kernel_rfl) (by kernel_rfl) (by kernel_rfl) (fun _ _ _ h => h) (Or.inr ⟨by rfl, rfl⟩) hHeld ?_
  try simp only [Act.put, List.setIfInBounds_toArray, List.set_cons_zero, List.set_cons_succ]
  refine wpAnyH_take (i := 6) (oi := ⟨some 50, _, _, _, _, _⟩) (v := undef) rfl (by kernel_rfl) (by kernel_rfl) (by kernel_rfl) (fun _ _ _ h => h) (Or.inr ⟨by rfl, rfl⟩) hHeld ?_
  try simp only [Act.put, List.setIfInBounds_toArray, List.set_cons_zero, List.set_cons_succ]
  refine wpAnyH_take (i := 7) (oi := ⟨some 51, _, _, _, _, _⟩) (v := undef) rfl (by kernel_rfl) (by kernel_rfl) (by kernel_rfl) (fun _ _ _ h => h) (Or.inr ⟨by rfl, rfl⟩) hHeld ?_
  try simp only [Act.put, List.setIfInBounds_toArray, List.set_cons_zero, List.set_cons_succ]
  refine wpAnyH_take (i := 8) (oi := ⟨some 52, _, _, _, _, _⟩) (v := undef) rfl (by kernel_rfl) (by kernel_rfl) (by kernel_rfl) (fun _ _ _ h => h) (Or.inr ⟨by rfl, rfl⟩) hHeld ?_
  try simp only [Act.put, List.setIfInBounds_toArray, List.set_cons_zero, List.set_cons_succ]
  refine wpAnyH_take (i := 9) (oi := ⟨some 53, _, _, _, _, _⟩) (v := undef) rfl (by kernel_rfl) (by kernel_rfl) (by kernel_rfl) (fun _ _ _ h => h) (Or.inr ⟨by rfl, rfl⟩) hHeld ?_
  try simp only [Act.put, List.setIfInBounds_toArray, List.set_cons_zero, List.set_cons_succ]
  refine wpAnyH_take (i := 10) (oi := ⟨some 54, _, _, _, _, _⟩) (v := undef) rfl (by kernel_rfl) (by kernel_rfl) (by kernel_rfl) (fun _ _ _ h => h) (Or.inr ⟨by rfl, rfl⟩) hHeld ?_
  try simp only [Act.put, List.setIfInBounds_toArray, List.set_cons_zero, List.set_cons_succ]
  refine wpAnyH_take (i := 11) (oi := ⟨some 55, _, _, _, _, _⟩) (v := ?_) rfl (by kernel_rfl) (by kernel_rfl) (by kernel_rfl) (fun _ _ _ h => h) (Or.inl ⟨by rfl, ?_⟩) hHeld ?_
  rotate_left
  · intro w' hSw
    go_simp
    first | done | rfl
  try simp only [Act.put, List.setIfInBounds_toArray, List.set_cons_zero, List.set_cons_succ]
  refine wpAnyH_done (by kernel_rfl) ?_ _
  go_wp2
  go_ret3
  exact ⟨rfl, HK2.out.trans hq5 (fun _ _ h => h)⟩
set_option maxRecDepth 100000 in
set_option maxHeartbeats 4000000 in
theorem rgrow_zero_B (w : World) (old root : List Int) (hold : IsDig old) (hroot : IsDig root) (n : Nat) (hn : n ≤ 9007199254740991) (A : Option Addr) (c : Nat) (h1 : old = emptyF) (h2 : n ≠ 0) :
    Calls Tryd.prog 31 #[.int .i64 0, .agg (vb old).toArray, .int .i64 n, .agg (vb root).toArray, .slice A 0 c] w fun e w' => e = .returned (.tuple #[.int .i64 0, .int .i64 0, .slice none 0 0]) ∧ Keeps (fun _ => False) w w' := by
  have hem : IsDig emptyF := ⟨sumF_length _ _ _, dg_bytes _⟩
  obtain ⟨OV, hOV⟩ : ∃ V, V = vb old := ⟨_, rfl⟩
  have HLOV : Hid (OV.length = 32) := Lib.hid (by rw [hOV, vb_length]; exact hold.1)
  have HIOV : Hid ((Tryd.prog.info? 23).map (·.size) = some OV.length) := Lib.hid (by rw [HLOV.out]; kernel_rfl)
  have HCOV : Hid (∀ u ∈ OV, u.oneCell' = true) := Lib.hid (by rw [hOV]; exact vb_one _)
  obtain ⟨RV, hRV⟩ : ∃ V, V = vb root := ⟨_, rfl⟩
  have HLRV : Hid (RV.length = 32) := Lib.hid (by rw [hRV, vb_length]; exact hroot.1)
  have HIRV : Hid ((Tryd.prog.info? 23).map (·.size) = some RV.length) := Lib.hid (by rw [HLRV.out]; kernel_rfl)
  have HCRV : Hid (∀ u ∈ RV, u.oneCell' = true) := Lib.hid (by rw [hRV]; exact vb_one _)
  obtain ⟨EV, hEV⟩ : ∃ V, V = vb emptyF := ⟨_, rfl⟩
  have HEQ1 : Hid (∀ W, (Op.equalIn 10000 23 (.agg OV.toArray) (.agg EV.toArray)).run Tryd.prog W = .ok true W) := Lib.hid fun W => by
    have := run_eql_row W Tryd.underlying23 Tryd.underlying5 (by kernel_rfl) old emptyF hold.1 hem.1
    rw [decide_eq_true h1] at this
    rw [hOV, hEV]
    exact eql_in this
  rw [← hOV, ← hRV]
  obtain ⟨W2, hW2⟩ : ∃ W2, W2 = (w.alloc (.cells OV.toArray 23)).alloc (.cells RV.toArray 23) := ⟨_, rfl⟩
  have hk2 : Keeps (fun _ => False) w W2 := by rw [hW2]; exact ((Keeps.refl _ w).alloc _).alloc _
  have HB1 : Hid (Blk W2 w.heap.size 23 OV) := Lib.hid (by rw [hW2]; exact (Blk.new w _ _).alloc _)
  have HB2 : Hid (Blk W2 (w.heap.size + 1) 23 RV) := Lib.hid (by
    have h5 := Blk.new (w.alloc (.cells OV.toArray 23)) 23 RV
    rw [World.size_alloc] at h5
    rw [hW2]; exact h5)
  have HK2 := Lib.hid hk2
  have HRO : Hid (∀ W, Keeps (fun _ => False) W2 W → W.rangeAt w.heap.size 0 OV) := Lib.hid fun W hW j v hv => by rw [Nat.zero_add, (hW.blk HB1.out (fun h => h)).cell, hv]
  have HRR : Hid (∀ W, Keeps (fun _ => False) W2 W → W.rangeAt (w.heap.size + 1) 0 RV) := Lib.hid fun W hW j v hv => by rw [Nat.zero_add, (hW.blk HB2.out (fun h => h)).cell, hv]
  have HEM : Hid (∀ W, Keeps (fun _ => False) W2 W → Calls Tryd.prog 16 #[] W fun e w' => e = .returned (.agg EV.toArray) ∧ Keeps (fun _ => False) W w') := Lib.hid fun W hW => by
    rw [hEV]
    exact rempty_any W
  have n1 : ¬ (n : Int) < 0 := by omega
  have n2 : ¬ (9007199254740991 : Int) < (n : Int) := by omega
  have n4 : ¬ (n : Int) < (0 : Int) := by omega
  have n7 : ((n : Int) == 0) = false := by simp; omega
  clear hOV hRV hEV hold hroot hem h1 h2 hk2
  go_enter Tryd.func31, Tryd.ntmps31
  go_upto_region 9 with fail
  rw [← hW2]
  clear hW2
  refine wp_region_held_drew (S := Keeps (fun _ => False) W2) (by kernel_rfl) (Keeps.refl (fun _ => False) _).drew (fun hHeld => ?_)
  refine wpAnyH_take (i := 0) (oi := ⟨some 44, _, _, _, _, _⟩) (v := _) rfl (by kernel_rfl) (by kernel_rfl) (by kernel_rfl) (fun _ _ _ h => h) (yieldsIf_load_mid (by rfl) _ _ rfl _ _ rfl OV _ (fun w' h => HRO.out _ h) Tryd.underlying23 rfl HIOV.out) hHeld ?_
  try simp only [Act.put, List.setIfInBounds_toArray, List.set_cons_zero, List.set_cons_succ]
  refine wpAnyH_ready (rs := [1]) (by kernel_rfl) (by simp) ?_
  refine AllReadyH.cons (o := ⟨some 45, _, _, _, _, _⟩) rfl (fun K hK => ?_) AllReadyH.nil
  go_simp
  refine (HEM.out _ hHeld).mono ?_
  rintro e v5 ⟨rfl, hk5⟩
  have hq5 := hHeld.trans hk5 (fun _ _ h => h)
  refine hK.out _ _ hq5 (fun hHeld => ?_)
  clear hK K
  try simp only [Act.put, List.setIfInBounds_toArray, List.set_cons_zero, List.set_cons_succ]
  refine wpAnyH_take (i := 2) (oi := ⟨some 46, _, _, _, _, _⟩) (v := ?_) rfl (by kernel_rfl) (by kernel_rfl) (by kernel_rfl) (fun _ _ _ h => h) (Or.inl ⟨by rfl, ?_⟩) hHeld ?_
  rotate_left
  · intro w' hSw
    have cv := HEQ1.out w'
    go_simp
    first | done | rfl
  try simp only [Act.put, List.setIfInBounds_toArray, List.set_cons_zero, List.set_cons_succ]
  refine wpAnyH_take (i := 3) (oi := ⟨some 47, _, _, _, _, _⟩) (v := ?_) rfl (by kernel_rfl) (by kernel_rfl) (by kernel_rfl) (fun _ _ _ h => h) (Or.inl ⟨by rfl, ?_⟩) hHeld ?_
  rotate_left
  · intro w' hSw
    go_simp
    first | done | rfl
  try simp only [Act.put, List.setIfInBounds_toArray, List.set_cons_zero, List.set_cons_succ]
  refine wpAnyH_take (i := 4) (oi := ⟨some 48, _, _, _, _, _⟩) (v := ?_) rfl (by kernel_rfl) (by kernel_rfl) (by kernel_rfl) (fun _ _ _ h => h) (Or.inl ⟨by rfl, ?_⟩) hHeld ?_
  rotate_left
  · intro w' hSw
    go_simp
    first | done | rfl
  try simp only [Act.put, List.setIfInBounds_toArray, List.set_cons_zero, List.set_cons_succ]
  refine wpAnyH_take (i := 5) (oi := ⟨some 49, _, _, _, _, _⟩) (v := ?_) rfl (by kernel_rfl) (by kernel_rfl) (by kernel_rfl) (fun _ _ _ h => h) (Or.inl ⟨by rfl, ?_⟩) hHeld ?_
  rotate_left
  · intro w' hSw
    go_simp
    first | done | rfl
  try simp only [Act.put, List.setIfInBounds_toArray, List.set_cons_zero, List.set_cons_succ]
  refine wpAnyH_take (i := 6) (oi := ⟨some 50, _, _, _, _, _⟩) (v := ?_) rfl (by kernel_rfl) (by kernel_rfl) (by kernel_rfl) (fun _ _ _ h => h) (Or.inl ⟨by rfl, ?_⟩) hHeld ?_
  rotate_left
  · intro w' hSw
    go_simp
    first | done | rfl
  try simp only [Act.put, List.setIfInBounds_toArray, List.set_cons_zero, List.set_cons_succ]
  refine wpAnyH_take (i := 7) (oi := ⟨some 51, _, _, _, _, _⟩) (v := undef) rfl (by kernel_rfl) (by kernel_rfl) (by kernel_rfl) (fun _ _ _ h => h) (Or.inr ⟨by rfl, rfl⟩) hHeld ?_
  try simp only [Act.put, List.setIfInBounds_toArray, List.set_cons_zero, List.set_cons_succ]
  refine wpAnyH_take (i := 8) (oi := ⟨some 52, _, _, _, _, _⟩) (v := undef) rfl (by kernel_rfl) (by kernel_rfl) (by kernel_rfl) (fun _ _ _ h => h) (Or.inr ⟨by rfl, rfl⟩) hHeld ?_
  try simp only [Act.put, List.setIfInBounds_toArray, List.set_cons_zero, List.set_cons_succ]
  refine wpAnyH_take (i := 9) (oi := ⟨some 53, _, _, _, _, _⟩) (v := undef) rfl (by kernel_rfl) (by kernel_rfl) (by kernel_rfl) (fun _ _ _ h => h) (Or.inr ⟨by rfl, rfl⟩) hHeld ?_
  try simp only [Act.put, List.setIfInBounds_toArray, List.set_cons_zero, List.set_cons_succ]
  refine wpAnyH_take (i := 10) (oi := ⟨some 54, _, _, _, _, _⟩) (v := ?_) rfl (by kernel_rfl) (by kernel_rfl) (by kernel_rfl) (fun _ _ _ h => h) (Or.inl ⟨by rfl, ?_⟩) hHeld ?_
  rotate_left
  · intro w' hSw
    go_simp
    first | done | rfl
  try simp only [Act.put, List.setIfInBounds_toArray, List.set_cons_zero, List.set_cons_succ]
  refine wpAnyH_take (i := 11) (oi := ⟨some 55, _, _, _, _, _⟩) (v := ?_) rfl (by kernel_rfl) (by kernel_rfl) (by kernel_rfl) (fun _ _ _ h => h) (Or.inl ⟨by rfl, ?_⟩) hHeld ?_
  rotate_left
  · intro w' hSw
    go_simp
    first | done | rfl
  try simp only [Act.put, List.setIfInBounds_toArray, List.set_cons_zero, List.set_cons_succ]
  refine wpAnyH_done (by kernel_rfl) ?_ _
  go_wp2
  go_ret3
  exact ⟨rfl, HK2.out.trans hq5 (fun _ _ h => h)⟩
set_option maxRecDepth 100000 in
set_option maxHeartbeats 4000000 in
theorem rgrow_zero_C (w : World) (old root : List Int) (hold : IsDig old) (hroot : IsDig root) (n : Nat) (hn : n ≤ 9007199254740991) (A : Option Addr) (c : Nat) (h1 : old = emptyF) (h2 : n = 0) (h3 : root = emptyF) :
    Calls Tryd.prog 31 #[.int .i64 0, .agg (vb old).toArray, .int .i64 n, .agg (vb root).toArray, .slice A 0 c] w fun e w' => e = .returned (.tuple #[.int .i64 0, .int .i64 0, .slice none 0 0]) ∧ Keeps (fun _ => False) w w' := by
  have hem : IsDig emptyF := ⟨sumF_length _ _ _, dg_bytes _⟩
  obtain ⟨OV, hOV⟩ : ∃ V, V = vb old := ⟨_, rfl⟩
  have HLOV : Hid (OV.length = 32) := Lib.hid (by rw [hOV, vb_length]; exact hold.1)
  have HIOV : Hid ((Tryd.prog.info? 23).map (·.size) = some OV.length) := Lib.hid (by rw [HLOV.out]; kernel_rfl)
  have HCOV : Hid (∀ u ∈ OV, u.oneCell' = true) := Lib.hid (by rw [hOV]; exact vb_one _)
  obtain ⟨RV, hRV⟩ : ∃ V, V = vb root := ⟨_, rfl⟩
  have HLRV : Hid (RV.length = 32) := Lib.hid (by rw [hRV, vb_length]; exact hroot.1)
  have HIRV : Hid ((Tryd.prog.info? 23).map (·.size) = some RV.length) := Lib.hid (by rw [HLRV.out]; kernel_rfl)
  have HCRV : Hid (∀ u ∈ RV, u.oneCell' = true) := Lib.hid (by rw [hRV]; exact vb_one _)
  obtain ⟨EV, hEV⟩ : ∃ V, V = vb emptyF := ⟨_, rfl⟩
  have HEQ1 : Hid (∀ W, (Op.equalIn 10000 23 (.agg OV.toArray) (.agg EV.toArray)).run Tryd.prog W = .ok true W) := Lib.hid fun W => by
    have := run_eql_row W Tryd.underlying23 Tryd.underlying5 (by kernel_rfl) old emptyF hold.1 hem.1
    rw [decide_eq_true h1] at this
    rw [hOV, hEV]
    exact eql_in this
  have HEQ2 : Hid (∀ W, (Op.equalIn 10000 23 (.agg RV.toArray) (.agg EV.toArray)).run Tryd.prog W = .ok true W) := Lib.hid fun W => by
    have := run_eql_row W Tryd.underlying23 Tryd.underlying5 (by kernel_rfl) root emptyF hroot.1 hem.1
    rw [decide_eq_true h3] at this
    rw [hRV, hEV]
    exact eql_in this
  rw [← hOV, ← hRV]
  obtain ⟨W2, hW2⟩ : ∃ W2, W2 = (w.alloc (.cells OV.toArray 23)).alloc (.cells RV.toArray 23) := ⟨_, rfl⟩
  have hk2 : Keeps (fun _ => False) w W2 := by rw [hW2]; exact ((Keeps.refl _ w).alloc _).alloc _
  have HB1 : Hid (Blk W2 w.heap.size 23 OV) := Lib.hid (by rw [hW2]; exact (Blk.new w _ _).alloc _)
  have HB2 : Hid (Blk W2 (w.heap.size + 1) 23 RV) := Lib.hid (by
    have h5 := Blk.new (w.alloc (.cells OV.toArray 23)) 23 RV
    rw [World.size_alloc] at h5
    rw [hW2]; exact h5)
  have HK2 := Lib.hid hk2
  have HRO : Hid (∀ W, Keeps (fun _ => False) W2 W → W.rangeAt w.heap.size 0 OV) := Lib.hid fun W hW j v hv => by rw [Nat.zero_add, (hW.blk HB1.out (fun h => h)).cell, hv]
  have HRR : Hid (∀ W, Keeps (fun _ => False) W2 W → W.rangeAt (w.heap.size + 1) 0 RV) := Lib.hid fun W hW j v hv => by rw [Nat.zero_add, (hW.blk HB2.out (fun h => h)).cell, hv]
  have HEM : Hid (∀ W, Keeps (fun _ => False) W2 W → Calls Tryd.prog 16 #[] W fun e w' => e = .returned (.agg EV.toArray) ∧ Keeps (fun _ => False) W w') := Lib.hid fun W hW => by
    rw [hEV]
    exact rempty_any W
  have n1 : ¬ (n : Int) < 0 := by omega
  have n2 : ¬ (9007199254740991 : Int) < (n : Int) := by omega
  have n4 : ¬ (n : Int) < (0 : Int) := by omega
  subst h2
  clear hOV hRV hEV hold hroot hem h1 h3 hk2
  go_enter Tryd.func31, Tryd.ntmps31
  go_upto_region 9 with fail
  rw [← hW2]
  clear hW2
  refine wp_region_held_drew (S := Keeps (fun _ => False) W2) (by kernel_rfl) (Keeps.refl (fun _ => False) _).drew (fun hHeld => ?_)
  refine wpAnyH_take (i := 0) (oi := ⟨some 44, _, _, _, _, _⟩) (v := _) rfl (by kernel_rfl) (by kernel_rfl) (by kernel_rfl) (fun _ _ _ h => h) (yieldsIf_load_mid (by rfl) _ _ rfl _ _ rfl OV _ (fun w' h => HRO.out _ h) Tryd.underlying23 rfl HIOV.out) hHeld ?_
  try simp only [Act.put, List.setIfInBounds_toArray, List.set_cons_zero, List.set_cons_succ]
  refine wpAnyH_ready (rs := [1]) (by kernel_rfl) (by simp) ?_
  refine AllReadyH.cons (o := ⟨some 45, _, _, _, _, _⟩) rfl (fun K hK => ?_) AllReadyH.nil
  go_simp
  refine (HEM.out _ hHeld).mono ?_
  rintro e v5 ⟨rfl, hk5⟩
  have hq5 := hHeld.trans hk5 (fun _ _ h => h)
  refine hK.out _ _ hq5 (fun hHeld => ?_)
  clear hK K
  try simp only [Act.put, List.setIfInBounds_toArray, List.set_cons_zero, List.set_cons_succ]
  refine wpAnyH_take (i := 2) (oi := ⟨some 46, _, _, _, _, _⟩) (v := ?_) rfl (by kernel_rfl) (by kernel_rfl) (by kernel_rfl) (fun _ _ _ h => h) (Or.inl ⟨by rfl, ?_⟩) hHeld ?_
  rotate_left
  · intro w' hSw
    have cv := HEQ1.out w'
    go_simp
    first | done | rfl
  try simp only [Act.put, List.setIfInBounds_toArray, List.set_cons_zero, List.set_cons_succ]
  refine wpAnyH_take (i := 3) (oi := ⟨some 47, _, _, _, _, _⟩) (v := ?_) rfl (by kernel_rfl) (by kernel_rfl) (by kernel_rfl) (fun _ _ _ h => h) (Or.inl ⟨by rfl, ?_⟩) hHeld ?_
  rotate_left
  · intro w' hSw
    go_simp
    first | done | rfl
  try simp only [Act.put, List.setIfInBounds_toArray, List.set_cons_zero, List.set_cons_succ]
  refine wpAnyH_take (i := 4) (oi := ⟨some 48, _, _, _, _, _⟩) (v := ?_) rfl (by kernel_rfl) (by kernel_rfl) (by kernel_rfl) (fun _ _ _ h => h) (Or.inl ⟨by rfl, ?_⟩) hHeld ?_
  rotate_left
  · intro w' hSw
    go_simp
    first | done | rfl
  try simp only [Act.put, List.setIfInBounds_toArray, List.set_cons_zero, List.set_cons_succ]
  refine wpAnyH_take (i := 5) (oi := ⟨some 49, _, _, _, _, _⟩) (v := ?_) rfl (by kernel_rfl) (by kernel_rfl) (by kernel_rfl) (fun _ _ _ h => h) (Or.inl ⟨by rfl, ?_⟩) hHeld ?_
  rotate_left
  · intro w' hSw
    go_simp
    first | done | rfl
  try simp only [Act.put, List.setIfInBounds_toArray, List.set_cons_zero, List.set_cons_succ]
  refine wpAnyH_take (i := 6) (oi := ⟨some 50, _, _, _, _, _⟩) (v := ?_) rfl (by kernel_rfl) (by kernel_rfl) (by kernel_rfl) (fun _ _ _ h => h) (Or.inl ⟨by rfl, ?_⟩) hHeld ?_
  rotate_left
  · intro w' hSw
    go_simp
    first | done | rfl
  try simp only [Act.put, List.setIfInBounds_toArray, List.set_cons_zero, List.set_cons_succ]
  refine wpAnyH_take (i := 7) (oi := ⟨some 51, _, _, _, _, _⟩) (v := _) rfl (by kernel_rfl) (by kernel_rfl) (by kernel_rfl) (fun _ _ _ h => h) (yieldsIf_load_mid (by rfl) _ _ rfl _ _ rfl RV _ (fun w' h => HRR.out _ h) Tryd.underlying23 rfl HIRV.out) hHeld ?_
  try simp only [Act.put, List.setIfInBounds_toArray, List.set_cons_zero, List.set_cons_succ]
  refine wpAnyH_ready (rs := [8]) (by kernel_rfl) (by simp) ?_
  refine AllReadyH.cons (o := ⟨some 52, _, _, _, _, _⟩) rfl (fun K hK => ?_) AllReadyH.nil
  go_simp
  refine (HEM.out _ hHeld).mono ?_
  rintro e v7 ⟨rfl, hk7⟩
  have hq5 := hHeld.trans hk7 (fun _ _ h => h)
  refine hK.out _ _ hq5 (fun hHeld => ?_)
  clear hK K
  try simp only [Act.put, List.setIfInBounds_toArray, List.set_cons_zero, List.set_cons_succ]
  refine wpAnyH_take (i := 9) (oi := ⟨some 53, _, _, _, _, _⟩) (v := ?_) rfl (by kernel_rfl) (by kernel_rfl) (by kernel_rfl) (fun _ _ _ h => h) (Or.inl ⟨by rfl, ?_⟩) hHeld ?_
  rotate_left
  · intro w' hSw
    have cv := HEQ2.out w'
    go_simp
    first | done | rfl
  try simp only [Act.put, List.setIfInBounds_toArray, List.set_cons_zero, List.set_cons_succ]
  refine wpAnyH_take (i := 10) (oi := ⟨some 54, _, _, _, _, _⟩) (v := ?_) rfl (by kernel_rfl) (by kernel_rfl) (by kernel_rfl) (fun _ _ _ h => h) (Or.inl ⟨by rfl, ?_⟩) hHeld ?_
  rotate_left
  · intro w' hSw
    go_simp
    first | done | rfl
  try simp only [Act.put, List.setIfInBounds_toArray, List.set_cons_zero, List.set_cons_succ]
  refine wpAnyH_take (i := 11) (oi := ⟨some 55, _, _, _, _, _⟩) (v := ?_) rfl (by kernel_rfl) (by kernel_rfl) (by kernel_rfl) (fun _ _ _ h => h) (Or.inl ⟨by rfl, ?_⟩) hHeld ?_
  rotate_left
  · intro w' hSw
    go_simp
    first | done | rfl
  try simp only [Act.put, List.setIfInBounds_toArray, List.set_cons_zero, List.set_cons_succ]
  refine wpAnyH_done (by kernel_rfl) ?_ _
  go_wp2
  go_ret3
  exact ⟨rfl, HK2.out.trans hq5 (fun _ _ h => h)⟩
set_option maxRecDepth 100000 in
set_option maxHeartbeats 4000000 in
theorem rgrow_zero_D (w : World) (old root : List Int) (hold : IsDig old) (hroot : IsDig root) (n : Nat) (hn : n ≤ 9007199254740991) (A : Option Addr) (c : Nat) (h1 : old = emptyF) (h2 : n = 0) (h3 : root ≠ emptyF) :
    Calls Tryd.prog 31 #[.int .i64 0, .agg (vb old).toArray, .int .i64 n, .agg (vb root).toArray, .slice A 0 c] w fun e w' => e = .returned (.tuple #[.int .i64 271, .int .i64 (-1), .slice none 0 0]) ∧ Keeps (fun _ => False) w w' := by
  have hem : IsDig emptyF := ⟨sumF_length _ _ _, dg_bytes _⟩
  obtain ⟨OV, hOV⟩ : ∃ V, V = vb old := ⟨_, rfl⟩
  have HLOV : Hid (OV.length = 32) := Lib.hid (by rw [hOV, vb_length]; exact hold.1)
  have HIOV : Hid ((Tryd.prog.info? 23).map (·.size) = some OV.length) := Lib.hid (by rw [HLOV.out]; kernel_rfl)
  have HCOV : Hid (∀ u ∈ OV, u.oneCell' = true) := Lib.hid (by rw [hOV]; exact vb_one _)
  obtain ⟨RV, hRV⟩ : ∃ V, V = vb root := ⟨_, rfl⟩
  have HLRV : Hid (RV.length = 32) := Lib.hid (by rw [hRV, vb_length]; exact hroot.1)
  have HIRV : Hid ((Tryd.prog.info? 23).map (·.size) = some RV.length) := Lib.hid (by rw [HLRV.out]; kernel_rfl)
  have HCRV : Hid (∀ u ∈ RV, u.oneCell' = true) := Lib.hid (by rw [hRV]; exact vb_one _)
  obtain ⟨EV, hEV⟩ : ∃ V, V = vb emptyF := ⟨_, rfl⟩
  have HEQ1 : Hid (∀ W, (Op.equalIn 10000 23 (.agg OV.toArray) (.agg EV.toArray)).run Tryd.prog W = .ok true W) := Lib.hid fun W => by
    have := run_eql_row W Tryd.underlying23 Tryd.underlying5 (by kernel_rfl) old emptyF hold.1 hem.1
    rw [decide_eq_true h1] at this
    rw [hOV, hEV]
    exact eql_in this
  have HEQ2 : Hid (∀ W, (Op.equalIn 10000 23 (.agg RV.toArray) (.agg EV.toArray)).run Tryd.prog W = .ok false W) := Lib.hid fun W => by
    have := run_eql_row W Tryd.underlying23 Tryd.underlying5 (by kernel_rfl) root emptyF hroot.1 hem.1
    rw [decide_eq_false h3] at this
    rw [hRV, hEV]
    exact eql_in this
  rw [← hOV, ← hRV]
  obtain ⟨W2, hW2⟩ : ∃ W2, W2 = (w.alloc (.cells OV.toArray 23)).alloc (.cells RV.toArray 23) := ⟨_, rfl⟩
  have hk2 : Keeps (fun _ => False) w W2 := by rw [hW2]; exact ((Keeps.refl _ w).alloc _).alloc _
  have HB1 : Hid (Blk W2 w.heap.size 23 OV) := Lib.hid (by rw [hW2]; exact (Blk.new w _ _).alloc _)
  have HB2 : Hid (Blk W2 (w.heap.size + 1) 23 RV) := Lib.hid (by
    have h5 := Blk.new (w.alloc (.cells OV.toArray 23)) 23 RV
    rw [World.size_alloc] at h5
    rw [hW2]; exact h5)
  have HK2 := Lib.hid hk2
  have HRO : Hid (∀ W, Keeps (fun _ => False) W2 W → W.rangeAt w.heap.size 0 OV) := Lib.hid fun W hW j v hv => by rw [Nat.zero_add, (hW.blk HB1.out (fun h => h)).cell, hv]
  have HRR : Hid (∀ W, Keeps (fun _ => False) W2 W → W.rangeAt (w.heap.size + 1) 0 RV) := Lib.hid fun W hW j v hv => by rw [Nat.zero_add, (hW.blk HB2.out (fun h => h)).cell, hv]
  have HEM : Hid (∀ W, Keeps (fun _ => False) W2 W → Calls Tryd.prog 16 #[] W fun e w' => e = .returned (.agg EV.toArray) ∧ Keeps (fun _ => False) W w') := Lib.hid fun W hW => by
    rw [hEV]
    exact rempty_any W
  have n1 : ¬ (n : Int) < 0 := by omega
  have n2 : ¬ (9007199254740991 : Int) < (n : Int) := by omega
  have n4 : ¬ (n : Int) < (0 : Int) := by omega
  subst h2
  clear hOV hRV hEV hold hroot hem h1 h3 hk2
  go_enter Tryd.func31, Tryd.ntmps31
  go_upto_region 9 with fail
  rw [← hW2]
  clear hW2
  refine wp_region_held_drew (S := Keeps (fun _ => False) W2) (by kernel_rfl) (Keeps.refl (fun _ => False) _).drew (fun hHeld => ?_)
  refine wpAnyH_take (i := 0) (oi := ⟨some 44, _, _, _, _, _⟩) (v := _) rfl (by kernel_rfl) (by kernel_rfl) (by kernel_rfl) (fun _ _ _ h => h) (yieldsIf_load_mid (by rfl) _ _ rfl _ _ rfl OV _ (fun w' h => HRO.out _ h) Tryd.underlying23 rfl HIOV.out) hHeld ?_
  try simp only [Act.put, List.setIfInBounds_toArray, List.set_cons_zero, List.set_cons_succ]
  refine wpAnyH_ready (rs := [1]) (by kernel_rfl) (by simp) ?_
  refine AllReadyH.cons (o := ⟨some 45, _, _, _, _, _⟩) rfl (fun K hK => ?_) AllReadyH.nil
  go_simp
  refine (HEM.out _ hHeld).mono ?_
  rintro e v5 ⟨rfl, hk5⟩
  have hq5 := hHeld.trans hk5 (fun _ _ h => h)
  refine hK.out _ _ hq5 (fun hHeld => ?_)
  clear hK K
  try simp only [Act.put, List.setIfInBounds_toArray, List.set_cons_zero, List.set_cons_succ]
  refine wpAnyH_take (i := 2) (oi := ⟨some 46, _, _, _, _, _⟩) (v := ?_) rfl (by kernel_rfl) (by kernel_rfl) (by kernel_rfl) (fun _ _ _ h => h) (Or.inl ⟨by rfl, ?_⟩) hHeld ?_
  rotate_left
  · intro w' hSw
    have cv := HEQ1.out w'
    go_simp
    first | done | rfl
  try simp only [Act.put, List.setIfInBounds_toArray, List.set_cons_zero, List.set_cons_succ]
  refine wpAnyH_take (i := 3) (oi := ⟨some 47, _, _, _, _, _⟩) (v := ?_) rfl (by kernel_rfl) (by kernel_rfl) (by kernel_rfl) (fun _ _ _ h => h) (Or.inl ⟨by rfl, ?_⟩) hHeld ?_
  rotate_left
  · intro w' hSw
    go_simp
    first | done | rfl
  try simp only [Act.put, List.setIfInBounds_toArray, List.set_cons_zero, List.set_cons_succ]
  refine wpAnyH_take (i := 4) (oi := ⟨some 48, _, _, _, _, _⟩) (v := ?_) rfl (by kernel_rfl) (by kernel_rfl) (by kernel_rfl) (fun _ _ _ h => h) (Or.inl ⟨by rfl, ?_⟩) hHeld ?_
  rotate_left
  · intro w' hSw
    go_simp
    first | done | rfl
  try simp only [Act.put, List.setIfInBounds_toArray, List.set_cons_zero, List.set_cons_succ]
  refine wpAnyH_take (i := 5) (oi := ⟨some 49, _, _, _, _, _⟩) (v := ?_) rfl (by kernel_rfl) (by kernel_rfl) (by kernel_rfl) (fun _ _ _ h => h) (Or.inl ⟨by rfl, ?_⟩) hHeld ?_
  rotate_left
  · intro w' hSw
    go_simp
    first | done | rfl
  try simp only [Act.put, List.setIfInBounds_toArray, List.set_cons_zero, List.set_cons_succ]
  refine wpAnyH_take (i := 6) (oi := ⟨some 50, _, _, _, _, _⟩) (v := ?_) rfl (by kernel_rfl) (by kernel_rfl) (by kernel_rfl) (fun _ _ _ h => h) (Or.inl ⟨by rfl, ?_⟩) hHeld ?_
  rotate_left
  · intro w' hSw
    go_simp
    first | done | rfl
  try simp only [Act.put, List.setIfInBounds_toArray, List.set_cons_zero, List.set_cons_succ]
  refine wpAnyH_take (i := 7) (oi := ⟨some 51, _, _, _, _, _⟩) (v := _) rfl (by kernel_rfl) (by kernel_rfl) (by kernel_rfl) (fun _ _ _ h => h) (yieldsIf_load_mid (by rfl) _ _ rfl _ _ rfl RV _ (fun w' h => HRR.out _ h) Tryd.underlying23 rfl HIRV.out) hHeld ?_
  try simp only [Act.put, List.setIfInBounds_toArray, List.set_cons_zero, List.set_cons_succ]
  refine wpAnyH_ready (rs := [8]) (by kernel_rfl) (by simp) ?_
  refine AllReadyH.cons (o := ⟨some 52, _, _, _, _, _⟩) rfl (fun K hK => ?_) AllReadyH.nil
  go_simp
  refine (HEM.out _ hHeld).mono ?_
  rintro e v7 ⟨rfl, hk7⟩
  have hq5 := hHeld.trans hk7 (fun _ _ h => h)
  refine hK.out _ _ hq5 (fun hHeld => ?_)
  clear hK K
  try simp only [Act.put, List.setIfInBounds_toArray, List.set_cons_zero, List.set_cons_succ]
  refine wpAnyH_take (i := 9) (oi := ⟨some 53, _, _, _, _, _⟩) (v := ?_) rfl (by kernel_rfl) (by kernel_rfl) (by kernel_rfl) (fun _ _ _ h => h) (Or.inl ⟨by rfl, ?_⟩) hHeld ?_
  rotate_left
  · intro w' hSw
    have cv := HEQ2.out w'
    go_simp
    first | done | rfl
  try simp only [Act.put, List.setIfInBounds_toArray, List.set_cons_zero, List.set_cons_succ]
  refine wpAnyH_take (i := 10) (oi := ⟨some 54, _, _, _, _, _⟩) (v := ?_) rfl (by kernel_rfl) (by kernel_rfl) (by kernel_rfl) (fun _ _ _ h => h) (Or.inl ⟨by rfl, ?_⟩) hHeld ?_
  rotate_left
  · intro w' hSw
    go_simp
    first | done | rfl
  try simp only [Act.put, List.setIfInBounds_toArray, List.set_cons_zero, List.set_cons_succ]
  refine wpAnyH_take (i := 11) (oi := ⟨some 55, _, _, _, _, _⟩) (v := ?_) rfl (by kernel_rfl) (by kernel_rfl) (by kernel_rfl) (fun _ _ _ h => h) (Or.inl ⟨by rfl, ?_⟩) hHeld ?_
  rotate_left
  · intro w' hSw
    go_simp
    first | done | rfl
  try simp only [Act.put, List.setIfInBounds_toArray, List.set_cons_zero, List.set_cons_succ]
  refine wpAnyH_done (by kernel_rfl) ?_ _
  go_wp2
  go_ret3
  exact ⟨rfl, HK2.out.trans hq5 (fun _ _ h => h)⟩
set_option maxRecDepth 100000 in
set_option maxHeartbeats 4000000 in
theorem rentry_up_ok (w : World) (root leaf : List Int) (hroot : IsDig root) (hleaf : IsDig leaf) (n i : Nat) (hn : n ≤ 9007199254740991) (hi : i < n) (A : Option Addr) (K c : Nat) (ps : List (List Int)) (hr : RdD w A K ps) (hc : K ≤ c) (hK : K = (wayF i n).length)
    (hq : climb1 leaf (wayF i n) ps = root) :
    Calls Tryd.prog 27 #[.agg (vb root).toArray, .int .i64 n, .int .i64 i, .agg (vb leaf).toArray, .slice A K c] w fun e w' => ∃ B c', e = .returned (.tuple #[.int .i64 0, .int .i64 0, .slice B K c']) ∧ MineP w w' 22 B K c' (upRows leaf (wayF i n) ps) := by
  have HE := Lib.hid fun W => elen_any n i W (by omega) hi
  have hcd : IsDig (climb1 leaf (wayF i n) ps) := climb1_dig _ _ _ hleaf hr.2.1
  obtain ⟨dd, hdd⟩ : ∃ d, d = climb1 leaf (wayF i n) ps := ⟨_, rfl⟩
  have hwl := way_len i n (by omega)
  obtain ⟨RV, hRV⟩ : ∃ V, V = vb root := ⟨_, rfl⟩
  have HLRV : Hid (RV.length = 32) := Lib.hid (by rw [hRV, vb_length]; exact hroot.1)
  have HIRV : Hid ((Tryd.prog.info? 23).map (·.size) = some RV.length) := Lib.hid (by rw [HLRV.out]; kernel_rfl)
  have HCRV : Hid (∀ u ∈ RV, u.oneCell' = true) := Lib.hid (by rw [hRV]; exact vb_one _)
  obtain ⟨LV, hLV⟩ : ∃ V, V = vb leaf := ⟨_, rfl⟩
  have HLLV : Hid (LV.length = 32) := Lib.hid (by rw [hLV, vb_length]; exact hleaf.1)
  have HILV : Hid ((Tryd.prog.info? 23).map (·.size) = some LV.length) := Lib.hid (by rw [HLLV.out]; kernel_rfl)
  have HCLV : Hid (∀ u ∈ LV, u.oneCell' = true) := Lib.hid (by rw [hLV]; exact vb_one _)
  have HU : Hid (∀ W, Keeps (fun _ => False) w W → Calls Tryd.prog 54 #[.int .i64 i, .int .i64 n, .agg LV.toArray, .slice A K c] W fun e w' => ∃ B c', e = .returned (.tuple #[.agg (vb dd).toArray, .slice B K c']) ∧ MineP W w' 22 B K c' (upRows leaf (wayF i n) ps)) := Lib.hid fun W hW => by
    rw [hLV, hdd]
    exact eup_any n i W leaf A K c ps (by omega) hi hleaf (hr.keep hW (no_out _ _)) hc hK
  rw [← hdd] at hcd hq
  obtain ⟨DV, hDV⟩ : ∃ V, V = vb dd := ⟨_, rfl⟩
  have HLDV : Hid (DV.length = 32) := Lib.hid (by rw [hDV, vb_length]; exact hcd.1)
  have HIDV : Hid ((Tryd.prog.info? 23).map (·.size) = some DV.length) := Lib.hid (by rw [HLDV.out]; kernel_rfl)
  have HCDV : Hid (∀ u ∈ DV, u.oneCell' = true) := Lib.hid (by rw [hDV]; exact vb_one _)
  rw [← hDV] at HU
  have HEQ : Hid (∀ W, (Op.equalIn 10000 23 (.agg DV.toArray) (.agg RV.toArray)).run Tryd.prog W = .ok true W) := Lib.hid fun W => by
    have := run_eql_row W Tryd.underlying23 Tryd.underlying5 (by kernel_rfl) dd root hcd.1 hroot.1
    rw [decide_eq_true hq] at this
    rw [hDV, hRV]
    exact eql_in this
  rw [← hRV, ← hLV]
  rw [← hK] at HE hwl
  obtain ⟨RS, hRS⟩ : ∃ RS, RS = upRows leaf (wayF i n) ps := ⟨_, rfl⟩
  rw [← hRS] at HU ⊢
  obtain ⟨W2, hW2⟩ : ∃ W2, W2 = (w.alloc (.cells RV.toArray 23)).alloc (.cells LV.toArray 23) := ⟨_, rfl⟩
  have hk2 : Keeps (fun _ => False) w W2 := by rw [hW2]; exact ((Keeps.refl _ w).alloc _).alloc _
  have HB1 : Hid (Blk W2 w.heap.size 23 RV) := Lib.hid (by rw [hW2]; exact (Blk.new w _ _).alloc _)
  have HB2 : Hid (Blk W2 (w.heap.size + 1) 23 LV) := Lib.hid (by
    have h5 := Blk.new (w.alloc (.cells RV.toArray 23)) 23 LV
    rw [World.size_alloc] at h5
    rw [hW2]; exact h5)
  have HK2 := Lib.hid hk2
  have cvq := fun W => HEQ.out W
  have n1 : ¬ (n : Int) < 1 := by omega
  have n2 : ¬ (9007199254740991 : Int) < (n : Int) := by omega
  have n3 : ¬ (i : Int) < 0 := by omega
  have n4 : ¬ (n : Int) ≤ (i : Int) := by omega
  rw [hW2] at HB1 HB2 HK2
  clear hcd hq hdd hDV hRV hLV hRS hr hK hroot hleaf hW2 hk2
  go_enter Tryd.func27, Tryd.ntmps27
  go_wp2_with (first
    | (go_at_call 53; refine (HE.out _).mono ?_; rintro e w9 ⟨rfl, hw9⟩; subst hw9)
    | ((with_reducible show wpList _ _ _ (⟨_, Op.load 23 (.tmp 8), _, _, _, _⟩ :: _) _ _); refine wpList_load_whole rfl 23 _ rfl _ rfl HB2.out Tryd.underlying23 rfl HILV.out ?_)
    | (go_at_call 54; refine (HU.out _ HK2.out).mono ?_; rintro e v6 ⟨B6, c6, rfl, hP6⟩; have HP6 := Lib.hid hP6; clear hP6)
    | ((with_reducible show wpList _ _ _ (⟨none, Op.store 23 _ _, _, _, _, _⟩ :: _) _ _); refine wpList_store_whole rfl 23 _ _ rfl DV rfl rfl (Blk.new v6 23 (List.replicate 32 (Value.int .u8 0))) (by rw [HLDV.out]; simp) HIDV.out HCDV.out ?_; refine gen_world (fun W => Blk W v6.heap.size 23 DV ∧ Blk W w.heap.size 23 RV ∧ Keeps (fun _ => False) v6 W) ⟨(Blk.new v6 23 _).setRow DV, (((Keeps.refl (fun _ => False) v6).alloc _).setRow (.inr (Nat.le_refl _)) _).blk (HP6.out.keeps.blk HB1.out (fun h => h)) (fun h => h), ((Keeps.refl (fun _ => False) v6).alloc _).setRow (.inr (Nat.le_refl _)) _⟩ ?_; rintro w7 ⟨hb7, hb8, hk7⟩; have HB7 := Lib.hid hb7; have HB8 := Lib.hid hb8; have HK7 := Lib.hid hk7; clear hb7 hb8 hk7)
    | ((with_reducible show wpList _ _ _ (⟨_, Op.load 23 (.tmp 13), _, _, _, _⟩ :: _) _ _); refine wpList_load_whole rfl 23 _ rfl _ rfl HB7.out Tryd.underlying23 rfl HIDV.out ?_)
    | ((with_reducible show wpList _ _ _ (⟨_, Op.load 23 (.tmp 5), _, _, _, _⟩ :: _) _ _); refine wpList_load_whole rfl 23 _ rfl _ rfl HB8.out Tryd.underlying23 rfl HIRV.out ?_))
  go_ret3
  exact ⟨B6, c6, rfl, (HP6.out.base HK2.out).keep HK7.out⟩
set_option maxRecDepth 100000 in
set_option maxHeartbeats 4000000 in
theorem rentry_up_no (w : World) (root leaf : List Int) (hroot : IsDig root) (hleaf : IsDig leaf) (n i : Nat) (hn : n ≤ 9007199254740991) (hi : i < n) (A : Option Addr) (K c : Nat) (ps : List (List Int)) (hr : RdD w A K ps) (hc : K ≤ c) (hK : K = (wayF i n).length)
    (hq : climb1 leaf (wayF i n) ps ≠ root) :
    Calls Tryd.prog 27 #[.agg (vb root).toArray, .int .i64 n, .int .i64 i, .agg (vb leaf).toArray, .slice A K c] w fun e w' => ∃ B c', e = .returned (.tuple #[.int .i64 271, .int .i64 (-1), .slice B K c']) ∧ MineP w w' 22 B K c' (upRows leaf (wayF i n) ps) := by
  have HE := Lib.hid fun W => elen_any n i W (by omega) hi
  have hcd : IsDig (climb1 leaf (wayF i n) ps) := climb1_dig _ _ _ hleaf hr.2.1
  obtain ⟨dd, hdd⟩ : ∃ d, d = climb1 leaf (wayF i n) ps := ⟨_, rfl⟩
  have hwl := way_len i n (by omega)
  obtain ⟨RV, hRV⟩ : ∃ V, V = vb root := ⟨_, rfl⟩
  have HLRV : Hid (RV.length = 32) := Lib.hid (by rw [hRV, vb_length]; exact hroot.1)
  have HIRV : Hid ((Tryd.prog.info? 23).map (·.size) = some RV.length) := Lib.hid (by rw [HLRV.out]; kernel_rfl)
  have HCRV : Hid (∀ u ∈ RV, u.oneCell' = true) := Lib.hid (by rw [hRV]; exact vb_one _)
  obtain ⟨LV, hLV⟩ : ∃ V, V = vb leaf := ⟨_, rfl⟩
  have HLLV : Hid (LV.length = 32) := Lib.hid (by rw [hLV, vb_length]; exact hleaf.1)
  have HILV : Hid ((Tryd.prog.info? 23).map (·.size) = some LV.length) := Lib.hid (by rw [HLLV.out]; kernel_rfl)
  have HCLV : Hid (∀ u ∈ LV, u.oneCell' = true) := Lib.hid (by rw [hLV]; exact vb_one _)
  have HU : Hid (∀ W, Keeps (fun _ => False) w W → Calls Tryd.prog 54 #[.int .i64 i, .int .i64 n, .agg LV.toArray, .slice A K c] W fun e w' => ∃ B c', e = .returned (.tuple #[.agg (vb dd).toArray, .slice B K c']) ∧ MineP W w' 22 B K c' (upRows leaf (wayF i n) ps)) := Lib.hid fun W hW => by
    rw [hLV, hdd]
    exact eup_any n i W leaf A K c ps (by omega) hi hleaf (hr.keep hW (no_out _ _)) hc hK
  rw [← hdd] at hcd hq
  obtain ⟨DV, hDV⟩ : ∃ V, V = vb dd := ⟨_, rfl⟩
  have HLDV : Hid (DV.length = 32) := Lib.hid (by rw [hDV, vb_length]; exact hcd.1)
  have HIDV : Hid ((Tryd.prog.info? 23).map (·.size) = some DV.length) := Lib.hid (by rw [HLDV.out]; kernel_rfl)
  have HCDV : Hid (∀ u ∈ DV, u.oneCell' = true) := Lib.hid (by rw [hDV]; exact vb_one _)
  rw [← hDV] at HU
  have HEQ : Hid (∀ W, (Op.equalIn 10000 23 (.agg DV.toArray) (.agg RV.toArray)).run Tryd.prog W = .ok false W) := Lib.hid fun W => by
    have := run_eql_row W Tryd.underlying23 Tryd.underlying5 (by kernel_rfl) dd root hcd.1 hroot.1
    rw [decide_eq_false hq] at this
    rw [hDV, hRV]
    exact eql_in this
  rw [← hRV, ← hLV]
  rw [← hK] at HE hwl
  obtain ⟨RS, hRS⟩ : ∃ RS, RS = upRows leaf (wayF i n) ps := ⟨_, rfl⟩
  rw [← hRS] at HU ⊢
  obtain ⟨W2, hW2⟩ : ∃ W2, W2 = (w.alloc (.cells RV.toArray 23)).alloc (.cells LV.toArray 23) := ⟨_, rfl⟩
  have hk2 : Keeps (fun _ => False) w W2 := by rw [hW2]; exact ((Keeps.refl _ w).alloc _).alloc _
  have HB1 : Hid (Blk W2 w.heap.size 23 RV) := Lib.hid (by rw [hW2]; exact (Blk.new w _ _).alloc _)
  have HB2 : Hid (Blk W2 (w.heap.size + 1) 23 LV) := Lib.hid (by
    have h5 := Blk.new (w.alloc (.cells RV.toArray 23)) 23 LV
    rw [World.size_alloc] at h5
    rw [hW2]; exact h5)
  have HK2 := Lib.hid hk2
  have cvq := fun W => HEQ.out W
  have n1 : ¬ (n : Int) < 1 := by omega
  have n2 : ¬ (9007199254740991 : Int) < (n : Int) := by omega
  have n3 : ¬ (i : Int) < 0 := by omega
  have n4 : ¬ (n : Int) ≤ (i : Int) := by omega
  rw [hW2] at HB1 HB2 HK2
  clear hcd hq hdd hDV hRV hLV hRS hr hK hroot hleaf hW2 hk2
  go_enter Tryd.func27, Tryd.ntmps27
  go_wp2_with (first
    | (go_at_call 53; refine (HE.out _).mono ?_; rintro e w9 ⟨rfl, hw9⟩; subst hw9)
    | ((with_reducible show wpList _ _ _ (⟨_, Op.load 23 (.tmp 8), _, _, _, _⟩ :: _) _ _); refine wpList_load_whole rfl 23 _ rfl _ rfl HB2.out Tryd.underlying23 rfl HILV.out ?_)
    | (go_at_call 54; refine (HU.out _ HK2.out).mono ?_; rintro e v6 ⟨B6, c6, rfl, hP6⟩; have HP6 := Lib.hid hP6; clear hP6)
    | ((with_reducible show wpList _ _ _ (⟨none, Op.store 23 _ _, _, _, _, _⟩ :: _) _ _); refine wpList_store_whole rfl 23 _ _ rfl DV rfl rfl (Blk.new v6 23 (List.replicate 32 (Value.int .u8 0))) (by rw [HLDV.out]; simp) HIDV.out HCDV.out ?_; refine gen_world (fun W => Blk W v6.heap.size 23 DV ∧ Blk W w.heap.size 23 RV ∧ Keeps (fun _ => False) v6 W) ⟨(Blk.new v6 23 _).setRow DV, (((Keeps.refl (fun _ => False) v6).alloc _).setRow (.inr (Nat.le_refl _)) _).blk (HP6.out.keeps.blk HB1.out (fun h => h)) (fun h => h), ((Keeps.refl (fun _ => False) v6).alloc _).setRow (.inr (Nat.le_refl _)) _⟩ ?_; rintro w7 ⟨hb7, hb8, hk7⟩; have HB7 := Lib.hid hb7; have HB8 := Lib.hid hb8; have HK7 := Lib.hid hk7; clear hb7 hb8 hk7)
    | ((with_reducible show wpList _ _ _ (⟨_, Op.load 23 (.tmp 13), _, _, _, _⟩ :: _) _ _); refine wpList_load_whole rfl 23 _ rfl _ rfl HB7.out Tryd.underlying23 rfl HIDV.out ?_)
    | ((with_reducible show wpList _ _ _ (⟨_, Op.load 23 (.tmp 5), _, _, _, _⟩ :: _) _ _); refine wpList_load_whole rfl 23 _ rfl _ rfl HB8.out Tryd.underlying23 rfl HIRV.out ?_))
  go_ret3
  exact ⟨B6, c6, rfl, (HP6.out.base HK2.out).keep HK7.out⟩
set_option maxRecDepth 100000 in
set_option maxHeartbeats 4000000 in
theorem rgrow_up_tt (w : World) (old root s : List Int) (hold : IsDig old) (hroot : IsDig root) (hs : IsDig s) (m n : Nat) (hn : n ≤ 9007199254740991) (hm0 : 0 < m) (hmn : m ≤ n) (A : Option Addr) (K c : Nat) (pre ps : List (List Int))
    (hpre : (gwayF m n true).2 = true ∧ pre = [] ∧ s = old ∨ (gwayF m n true).2 = false ∧ pre = [s]) (hr : RdD w A K (pre ++ ps)) (hc : K ≤ c) (hps : ps.length = (gwayF m n true).1.length) (hK : K = glenF m n true) (h1 : (climb2 (s, s) (gwayF m n true).1 ps).1 = old) (h2 : (climb2 (s, s) (gwayF m n true).1 ps).2 = root) :
    Calls Tryd.prog 31 #[.int .i64 m, .agg (vb old).toArray, .int .i64 n, .agg (vb root).toArray, .slice A K c] w fun e w' => ∃ B c', e = .returned (.tuple #[.int .i64 0, .int .i64 0, .slice B (gupRows (s, s) (gwayF m n true).1 ps).length c']) ∧ MineP w w' 22 B (gupRows (s, s) (gwayF m n true).1 ps).length c' (gupRows (s, s) (gwayF m n true).1 ps) := by
  have HE := Lib.hid fun W => glen_any n m true W (by omega) hm0 hmn
  have hdp : IsDigs ps := fun x hx => hr.2.1 x (by simp [hx])
  have hcd := climb2_dig (s, s) (gwayF m n true).1 ps hs hs hdp
  have HU0 := fun (W : World) (hW : Keeps (fun _ => False) w W) => gup_any n m true W old s A K c pre ps (by omega) hm0 hmn hold hs hpre (hr.keep hW (no_out _ _)) hc hps
  obtain ⟨a', ha'⟩ : ∃ d, d = (climb2 (s, s) (gwayF m n true).1 ps).1 := ⟨_, rfl⟩
  obtain ⟨b', hb'⟩ : ∃ d, d = (climb2 (s, s) (gwayF m n true).1 ps).2 := ⟨_, rfl⟩
  rw [← ha', ← hb'] at hcd
  rw [← ha'] at h1
  rw [← hb'] at h2
  obtain ⟨hac, hbc⟩ := hcd
  obtain ⟨OV, hOV⟩ : ∃ V, V = vb old := ⟨_, rfl⟩
  have HLOV : Hid (OV.length = 32) := Lib.hid (by rw [hOV, vb_length]; exact hold.1)
  have HIOV : Hid ((Tryd.prog.info? 23).map (·.size) = some OV.length) := Lib.hid (by rw [HLOV.out]; kernel_rfl)
  have HCOV : Hid (∀ u ∈ OV, u.oneCell' = true) := Lib.hid (by rw [hOV]; exact vb_one _)
  obtain ⟨RV, hRV⟩ : ∃ V, V = vb root := ⟨_, rfl⟩
  have HLRV : Hid (RV.length = 32) := Lib.hid (by rw [hRV, vb_length]; exact hroot.1)
  have HIRV : Hid ((Tryd.prog.info? 23).map (·.size) = some RV.length) := Lib.hid (by rw [HLRV.out]; kernel_rfl)
  have HCRV : Hid (∀ u ∈ RV, u.oneCell' = true) := Lib.hid (by rw [hRV]; exact vb_one _)
  obtain ⟨AV, hAV⟩ : ∃ V, V = vb a' := ⟨_, rfl⟩
  have HLAV : Hid (AV.length = 32) := Lib.hid (by rw [hAV, vb_length]; exact hac.1)
  have HIAV : Hid ((Tryd.prog.info? 23).map (·.size) = some AV.length) := Lib.hid (by rw [HLAV.out]; kernel_rfl)
  have HCAV : Hid (∀ u ∈ AV, u.oneCell' = true) := Lib.hid (by rw [hAV]; exact vb_one _)
  obtain ⟨DV, hDV⟩ : ∃ V, V = vb b' := ⟨_, rfl⟩
  have HLDV : Hid (DV.length = 32) := Lib.hid (by rw [hDV, vb_length]; exact hbc.1)
  have HIDV : Hid ((Tryd.prog.info? 23).map (·.size) = some DV.length) := Lib.hid (by rw [HLDV.out]; kernel_rfl)
  have HCDV : Hid (∀ u ∈ DV, u.oneCell' = true) := Lib.hid (by rw [hDV]; exact vb_one _)
  obtain ⟨RS, hRS⟩ : ∃ RS, RS = gupRows (s, s) (gwayF m n true).1 ps := ⟨_, rfl⟩
  rw [← hRS]
  obtain ⟨N, hN⟩ : ∃ N, N = RS.length := ⟨_, rfl⟩
  rw [← hN]
  have HU : Hid (∀ W, Keeps (fun _ => False) w W → Calls Tryd.prog 62 #[.int .i64 m, .int .i64 n, .bool true, .agg OV.toArray, .slice A K c] W fun e w' => ∃ B c', e = .returned (.tuple #[.agg AV.toArray, .agg DV.toArray, .slice B N c']) ∧ MineP W w' 22 B N c' RS) := Lib.hid fun W hW => by
    rw [hOV, hAV, hDV, ha', hb', hN, hRS]
    exact HU0 W hW
  have HEQ1 : Hid (∀ W, (Op.equalIn 10000 23 (.agg AV.toArray) (.agg OV.toArray)).run Tryd.prog W = .ok true W) := Lib.hid fun W => by
    have := run_eql_row W Tryd.underlying23 Tryd.underlying5 (by kernel_rfl) a' old hac.1 hold.1
    rw [decide_eq_true h1] at this
    rw [hAV, hOV]
    exact eql_in this
  have HEQ2 : Hid (∀ W, (Op.equalIn 10000 23 (.agg DV.toArray) (.agg RV.toArray)).run Tryd.prog W = .ok true W) := Lib.hid fun W => by
    have := run_eql_row W Tryd.underlying23 Tryd.underlying5 (by kernel_rfl) b' root hbc.1 hroot.1
    rw [decide_eq_true h2] at this
    rw [hDV, hRV]
    exact eql_in this
  have hwl : K ≤ 54 := by
    rw [hK]; unfold glenF
    have := gway_short m n 53 true (by omega)
    split <;> omega
  rw [← hK] at HE
  rw [← hOV, ← hRV]
  obtain ⟨W2, hW2⟩ : ∃ W2, W2 = (w.alloc (.cells OV.toArray 23)).alloc (.cells RV.toArray 23) := ⟨_, rfl⟩
  have hk2 : Keeps (fun _ => False) w W2 := by rw [hW2]; exact ((Keeps.refl _ w).alloc _).alloc _
  have HB1 : Hid (Blk W2 w.heap.size 23 OV) := Lib.hid (by rw [hW2]; exact (Blk.new w _ _).alloc _)
  have HB2 : Hid (Blk W2 (w.heap.size + 1) 23 RV) := Lib.hid (by
    have h5 := Blk.new (w.alloc (.cells OV.toArray 23)) 23 RV
    rw [World.size_alloc] at h5
    rw [hW2]; exact h5)
  have HK2 := Lib.hid hk2
  have cvq1 := fun W => HEQ1.out W
  have cvq2 := fun W => HEQ2.out W
  have n1 : ¬ (n : Int) < 0 := by omega
  have n2 : ¬ (9007199254740991 : Int) < (n : Int) := by omega
  have n3 : ¬ (m : Int) < 0 := by omega
  have n4 : ¬ (n : Int) < (m : Int) := by omega
  have n5 : (0 : Int) < (m : Int) := by omega
  have n6 : ((m : Int) == 0) = false := by simp; omega
  rw [hW2] at HB1 HB2 HK2
  clear hac hbc h1 h2 ha' hb' hOV hRV hAV hDV hRS hN hr hK hroot hold hs hdp HU0 hpre hps hW2 hk2
  go_enter Tryd.func31, Tryd.ntmps31
  go_wp2_with (first
    | (go_at_call 61; refine (HE.out _).mono ?_; rintro e w9 ⟨rfl, hw9⟩; subst hw9)
    | ((with_reducible show wpList _ _ _ (⟨some 59, Op.load 23 (.tmp 6), _, _, _, _⟩ :: _) _ _); refine wpList_load_whole rfl 23 _ rfl _ rfl HB1.out Tryd.underlying23 rfl HIOV.out ?_)
    | (go_at_call 62; refine (HU.out _ HK2.out).mono ?_; rintro e v6 ⟨B6, c6, rfl, hP6⟩; have HP6 := Lib.hid hP6; clear hP6)
    | ((with_reducible show wpList _ _ _ (⟨none, Op.store 23 (.tmp 14) _, _, _, _, _⟩ :: _) _ _); refine wpList_store_whole rfl 23 _ _ rfl AV rfl rfl ((Blk.new v6 23 (List.replicate 32 (Value.int .u8 0))).alloc _) (by rw [HLAV.out]; simp) HIAV.out HCAV.out ?_; refine gen_world (fun W => Blk W v6.heap.size 23 AV ∧ Blk W (v6.heap.size + 1) 23 (List.replicate 32 (Value.int .u8 0)) ∧ Keeps (fun _ => False) v6 W) ⟨((Blk.new v6 23 _).alloc _).setRow AV, (blk_new2 v6 _ _ _).setRow_far (by omega) _, (((Keeps.refl (fun _ => False) v6).alloc _).alloc _).setRow (.inr (Nat.le_refl _)) _⟩ ?_; rintro w7 ⟨hb7, hb8, hk7⟩; have HB7 := Lib.hid hb7; have HB8 := Lib.hid hb8; have HK7 := Lib.hid hk7; clear hb7 hb8 hk7)
    | ((with_reducible show wpList _ _ _ (⟨none, Op.store 23 (.tmp 15) _, _, _, _, _⟩ :: _) _ _); refine wpList_store_whole rfl 23 _ _ rfl DV rfl rfl HB8.out (by rw [HLDV.out]; simp) HIDV.out HCDV.out ?_; refine gen_world (fun W => Blk W v6.heap.size 23 AV ∧ Blk W (v6.heap.size + 1) 23 DV ∧ Blk W w.heap.size 23 OV ∧ Blk W (w.heap.size + 1) 23 RV ∧ Keeps (fun _ => False) v6 W) (by
        have k8 : Keeps (fun _ => False) v6 (w7.setRow (v6.heap.size + 1) DV.toArray) := HK7.out.setRow (.inr (by omega)) _
        exact ⟨HB7.out.setRow_far (by omega) _, HB8.out.setRow DV, k8.blk (HP6.out.keeps.blk HB1.out (fun h => h)) (fun h => h), k8.blk (HP6.out.keeps.blk HB2.out (fun h => h)) (fun h => h), k8⟩) ?_; rintro w8 ⟨hc1, hc2, hc3, hc4, hk8⟩; have HC1 := Lib.hid hc1; have HC2 := Lib.hid hc2; have HC3 := Lib.hid hc3; have HC4 := Lib.hid hc4; have HK8 := Lib.hid hk8; clear hc1 hc2 hc3 hc4 hk8)
    | ((with_reducible show wpList _ _ _ (⟨_, Op.load 23 (.tmp 14), _, _, _, _⟩ :: _) _ _); refine wpList_load_whole rfl 23 _ rfl _ rfl HC1.out Tryd.underlying23 rfl HIAV.out ?_)
    | ((with_reducible show wpList _ _ _ (⟨some 66, Op.load 23 (.tmp 6), _, _, _, _⟩ :: _) _ _); refine wpList_load_whole rfl 23 _ rfl _ rfl HC3.out Tryd.underlying23 rfl HIOV.out ?_)
    | ((with_reducible show wpList _ _ _ (⟨_, Op.load 23 (.tmp 15), _, _, _, _⟩ :: _) _ _); refine wpList_load_whole_g rfl 23 _ rfl _ rfl HC2.out Tryd.underlying23 rfl HIDV.out ?_)
    | ((with_reducible show wpList _ _ _ (⟨_, Op.load 23 (.tmp 8), _, _, _, _⟩ :: _) _ _); refine wpList_load_whole_g rfl 23 _ rfl _ rfl HC4.out Tryd.underlying23 rfl HIRV.out ?_))
  go_ret3
  exact ⟨B6, c6, rfl, (HP6.out.base HK2.out).keep HK8.out⟩
set_option maxRecDepth 100000 in
set_option maxHeartbeats 4000000 in
theorem rgrow_up_f (w : World) (old root s : List Int) (hold : IsDig old) (hroot : IsDig root) (hs : IsDig s) (m n : Nat) (hn : n ≤ 9007199254740991) (hm0 : 0 < m) (hmn : m ≤ n) (A : Option Addr) (K c : Nat) (pre ps : List (List Int))
    (hpre : (gwayF m n true).2 = true ∧ pre = [] ∧ s = old ∨ (gwayF m n true).2 = false ∧ pre = [s]) (hr : RdD w A K (pre ++ ps)) (hc : K ≤ c) (hps : ps.length = (gwayF m n true).1.length) (hK : K = glenF m n true) (h1 : (climb2 (s, s) (gwayF m n true).1 ps).1 ≠ old) :
    Calls Tryd.prog 31 #[.int .i64 m, .agg (vb old).toArray, .int .i64 n, .agg (vb root).toArray, .slice A K c] w fun e w' => ∃ B c', e = .returned (.tuple #[.int .i64 271, .int .i64 (-1), .slice B (gupRows (s, s) (gwayF m n true).1 ps).length c']) ∧ MineP w w' 22 B (gupRows (s, s) (gwayF m n true).1 ps).length c' (gupRows (s, s) (gwayF m n true).1 ps) := by
  have HE := Lib.hid fun W => glen_any n m true W (by omega) hm0 hmn
  have hdp : IsDigs ps := fun x hx => hr.2.1 x (by simp [hx])
  have hcd := climb2_dig (s, s) (gwayF m n true).1 ps hs hs hdp
  have HU0 := fun (W : World) (hW : Keeps (fun _ => False) w W) => gup_any n m true W old s A K c pre ps (by omega) hm0 hmn hold hs hpre (hr.keep hW (no_out _ _)) hc hps
  obtain ⟨a', ha'⟩ : ∃ d, d = (climb2 (s, s) (gwayF m n true).1 ps).1 := ⟨_, rfl⟩
  obtain ⟨b', hb'⟩ : ∃ d, d = (climb2 (s, s) (gwayF m n true).1 ps).2 := ⟨_, rfl⟩
  rw [← ha', ← hb'] at hcd
  rw [← ha'] at h1
  skip
  obtain ⟨hac, hbc⟩ := hcd
  obtain ⟨OV, hOV⟩ : ∃ V, V = vb old := ⟨_, rfl⟩
  have HLOV : Hid (OV.length = 32) := Lib.hid (by rw [hOV, vb_length]; exact hold.1)
  have HIOV : Hid ((Tryd.prog.info? 23).map (·.size) = some OV.length) := Lib.hid (by rw [HLOV.out]; kernel_rfl)
  have HCOV : Hid (∀ u ∈ OV, u.oneCell' = true) := Lib.hid (by rw [hOV]; exact vb_one _)
  obtain ⟨RV, hRV⟩ : ∃ V, V = vb root := ⟨_, rfl⟩
  have HLRV : Hid (RV.length = 32) := Lib.hid (by rw [hRV, vb_length]; exact hroot.1)
  have HIRV : Hid ((Tryd.prog.info? 23).map (·.size) = some RV.length) := Lib.hid (by rw [HLRV.out]; kernel_rfl)
  have HCRV : Hid (∀ u ∈ RV, u.oneCell' = true) := Lib.hid (by rw [hRV]; exact vb_one _)
  obtain ⟨AV, hAV⟩ : ∃ V, V = vb a' := ⟨_, rfl⟩
  have HLAV : Hid (AV.length = 32) := Lib.hid (by rw [hAV, vb_length]; exact hac.1)
  have HIAV : Hid ((Tryd.prog.info? 23).map (·.size) = some AV.length) := Lib.hid (by rw [HLAV.out]; kernel_rfl)
  have HCAV : Hid (∀ u ∈ AV, u.oneCell' = true) := Lib.hid (by rw [hAV]; exact vb_one _)
  obtain ⟨DV, hDV⟩ : ∃ V, V = vb b' := ⟨_, rfl⟩
  have HLDV : Hid (DV.length = 32) := Lib.hid (by rw [hDV, vb_length]; exact hbc.1)
  have HIDV : Hid ((Tryd.prog.info? 23).map (·.size) = some DV.length) := Lib.hid (by rw [HLDV.out]; kernel_rfl)
  have HCDV : Hid (∀ u ∈ DV, u.oneCell' = true) := Lib.hid (by rw [hDV]; exact vb_one _)
  obtain ⟨RS, hRS⟩ : ∃ RS, RS = gupRows (s, s) (gwayF m n true).1 ps := ⟨_, rfl⟩
  rw [← hRS]
  obtain ⟨N, hN⟩ : ∃ N, N = RS.length := ⟨_, rfl⟩
  rw [← hN]
  have HU : Hid (∀ W, Keeps (fun _ => False) w W → Calls Tryd.prog 62 #[.int .i64 m, .int .i64 n, .bool true, .agg OV.toArray, .slice A K c] W fun e w' => ∃ B c', e = .returned (.tuple #[.agg AV.toArray, .agg DV.toArray, .slice B N c']) ∧ MineP W w' 22 B N c' RS) := Lib.hid fun W hW => by
    rw [hOV, hAV, hDV, ha', hb', hN, hRS]
    exact HU0 W hW
  have HEQ1 : Hid (∀ W, (Op.equalIn 10000 23 (.agg AV.toArray) (.agg OV.toArray)).run Tryd.prog W = .ok false W) := Lib.hid fun W => by
    have := run_eql_row W Tryd.underlying23 Tryd.underlying5 (by kernel_rfl) a' old hac.1 hold.1
    rw [decide_eq_false h1] at this
    rw [hAV, hOV]
    exact eql_in this
  have hwl : K ≤ 54 := by
    rw [hK]; unfold glenF
    have := gway_short m n 53 true (by omega)
    split <;> omega
  rw [← hK] at HE
  rw [← hOV, ← hRV]
  obtain ⟨W2, hW2⟩ : ∃ W2, W2 = (w.alloc (.cells OV.toArray 23)).alloc (.cells RV.toArray 23) := ⟨_, rfl⟩
  have hk2 : Keeps (fun _ => False) w W2 := by rw [hW2]; exact ((Keeps.refl _ w).alloc _).alloc _
  have HB1 : Hid (Blk W2 w.heap.size 23 OV) := Lib.hid (by rw [hW2]; exact (Blk.new w _ _).alloc _)
  have HB2 : Hid (Blk W2 (w.heap.size + 1) 23 RV) := Lib.hid (by
    have h5 := Blk.new (w.alloc (.cells OV.toArray 23)) 23 RV
    rw [World.size_alloc] at h5
    rw [hW2]; exact h5)
  have HK2 := Lib.hid hk2
  have cvq1 := fun W => HEQ1.out W
  have n1 : ¬ (n : Int) < 0 := by omega
  have n2 : ¬ (9007199254740991 : Int) < (n : Int) := by omega
  have n3 : ¬ (m : Int) < 0 := by omega
  have n4 : ¬ (n : Int) < (m : Int) := by omega
  have n5 : (0 : Int) < (m : Int) := by omega
  have n6 : ((m : Int) == 0) = false := by simp; omega
  rw [hW2] at HB1 HB2 HK2
  clear hac hbc h1 ha' hb' hOV hRV hAV hDV hRS hN hr hK hroot hold hs hdp HU0 hpre hps hW2 hk2
  go_enter Tryd.func31, Tryd.ntmps31
  go_wp2_with (first
    | (go_at_call 61; refine (HE.out _).mono ?_; rintro e w9 ⟨rfl, hw9⟩; subst hw9)
    | ((with_reducible show wpList _ _ _ (⟨some 59, Op.load 23 (.tmp 6), _, _, _, _⟩ :: _) _ _); refine wpList_load_whole rfl 23 _ rfl _ rfl HB1.out Tryd.underlying23 rfl HIOV.out ?_)
    | (go_at_call 62; refine (HU.out _ HK2.out).mono ?_; rintro e v6 ⟨B6, c6, rfl, hP6⟩; have HP6 := Lib.hid hP6; clear hP6)
    | ((with_reducible show wpList _ _ _ (⟨none, Op.store 23 (.tmp 14) _, _, _, _, _⟩ :: _) _ _); refine wpList_store_whole rfl 23 _ _ rfl AV rfl rfl ((Blk.new v6 23 (List.replicate 32 (Value.int .u8 0))).alloc _) (by rw [HLAV.out]; simp) HIAV.out HCAV.out ?_; refine gen_world (fun W => Blk W v6.heap.size 23 AV ∧ Blk W (v6.heap.size + 1) 23 (List.replicate 32 (Value.int .u8 0)) ∧ Keeps (fun _ => False) v6 W) ⟨((Blk.new v6 23 _).alloc _).setRow AV, (blk_new2 v6 _ _ _).setRow_far (by omega) _, (((Keeps.refl (fun _ => False) v6).alloc _).alloc _).setRow (.inr (Nat.le_refl _)) _⟩ ?_; rintro w7 ⟨hb7, hb8, hk7⟩; have HB7 := Lib.hid hb7; have HB8 := Lib.hid hb8; have HK7 := Lib.hid hk7; clear hb7 hb8 hk7)
    | ((with_reducible show wpList _ _ _ (⟨none, Op.store 23 (.tmp 15) _, _, _, _, _⟩ :: _) _ _); refine wpList_store_whole rfl 23 _ _ rfl DV rfl rfl HB8.out (by rw [HLDV.out]; simp) HIDV.out HCDV.out ?_; refine gen_world (fun W => Blk W v6.heap.size 23 AV ∧ Blk W (v6.heap.size + 1) 23 DV ∧ Blk W w.heap.size 23 OV ∧ Blk W (w.heap.size + 1) 23 RV ∧ Keeps (fun _ => False) v6 W) (by
        have k8 : Keeps (fun _ => False) v6 (w7.setRow (v6.heap.size + 1) DV.toArray) := HK7.out.setRow (.inr (by omega)) _
        exact ⟨HB7.out.setRow_far (by omega) _, HB8.out.setRow DV, k8.blk (HP6.out.keeps.blk HB1.out (fun h => h)) (fun h => h), k8.blk (HP6.out.keeps.blk HB2.out (fun h => h)) (fun h => h), k8⟩) ?_; rintro w8 ⟨hc1, hc2, hc3, hc4, hk8⟩; have HC1 := Lib.hid hc1; have HC2 := Lib.hid hc2; have HC3 := Lib.hid hc3; have HC4 := Lib.hid hc4; have HK8 := Lib.hid hk8; clear hc1 hc2 hc3 hc4 hk8)
    | ((with_reducible show wpList _ _ _ (⟨_, Op.load 23 (.tmp 14), _, _, _, _⟩ :: _) _ _); refine wpList_load_whole rfl 23 _ rfl _ rfl HC1.out Tryd.underlying23 rfl HIAV.out ?_)
    | ((with_reducible show wpList _ _ _ (⟨some 66, Op.load 23 (.tmp 6), _, _, _, _⟩ :: _) _ _); refine wpList_load_whole rfl 23 _ rfl _ rfl HC3.out Tryd.underlying23 rfl HIOV.out ?_)
    | ((with_reducible show wpList _ _ _ (⟨_, Op.load 23 (.tmp 15), _, _, _, _⟩ :: _) _ _); refine wpList_load_whole_g rfl 23 _ rfl _ rfl HC2.out Tryd.underlying23 rfl HIDV.out ?_)
    | ((with_reducible show wpList _ _ _ (⟨_, Op.load 23 (.tmp 8), _, _, _, _⟩ :: _) _ _); refine wpList_load_whole_g rfl 23 _ rfl _ rfl HC4.out Tryd.underlying23 rfl HIRV.out ?_))
  go_ret3
  exact ⟨B6, c6, rfl, (HP6.out.base HK2.out).keep HK8.out⟩
set_option maxRecDepth 100000 in
set_option maxHeartbeats 4000000 in
theorem rgrow_up_tf (w : World) (old root s : List Int) (hold : IsDig old) (hroot : IsDig root) (hs : IsDig s) (m n : Nat) (hn : n ≤ 9007199254740991) (hm0 : 0 < m) (hmn : m ≤ n) (A : Option Addr) (K c : Nat) (pre ps : List (List Int))
    (hpre : (gwayF m n true).2 = true ∧ pre = [] ∧ s = old ∨ (gwayF m n true).2 = false ∧ pre = [s]) (hr : RdD w A K (pre ++ ps)) (hc : K ≤ c) (hps : ps.length = (gwayF m n true).1.length) (hK : K = glenF m n true) (h1 : (climb2 (s, s) (gwayF m n true).1 ps).1 = old) (h2 : (climb2 (s, s) (gwayF m n true).1 ps).2 ≠ root) :
    Calls Tryd.prog 31 #[.int .i64 m, .agg (vb old).toArray, .int .i64 n, .agg (vb root).toArray, .slice A K c] w fun e w' => ∃ B c', e = .returned (.tuple #[.int .i64 271, .int .i64 (-1), .slice B (gupRows (s, s) (gwayF m n true).1 ps).length c']) ∧ MineP w w' 22 B (gupRows (s, s) (gwayF m n true).1 ps).length c' (gupRows (s, s) (gwayF m n true).1 ps) := by
  have HE := Lib.hid fun W => glen_any n m true W (by omega) hm0 hmn
  have hdp : IsDigs ps := fun x hx => hr.2.1 x (by simp [hx])
  have hcd := climb2_dig (s, s) (gwayF m n true).1 ps hs hs hdp
  have HU0 := fun (W : World) (hW : Keeps (fun _ => False) w W) => gup_any n m true W old s A K c pre ps (by omega) hm0 hmn hold hs hpre (hr.keep hW (no_out _ _)) hc hps
  obtain ⟨a', ha'⟩ : ∃ d, d = (climb2 (s, s) (gwayF m n true).1 ps).1 := ⟨_, rfl⟩
  obtain ⟨b', hb'⟩ : ∃ d, d = (climb2 (s, s) (gwayF m n true).1 ps).2 := ⟨_, rfl⟩
  rw [← ha', ← hb'] at hcd
  rw [← ha'] at h1
  rw [← hb'] at h2
  obtain ⟨hac, hbc⟩ := hcd
  obtain ⟨OV, hOV⟩ : ∃ V, V = vb old := ⟨_, rfl⟩
  have HLOV : Hid (OV.length = 32) := Lib.hid (by rw [hOV, vb_length]; exact hold.1)
  have HIOV : Hid ((Tryd.prog.info? 23).map (·.size) = some OV.length) := Lib.hid (by rw [HLOV.out]; kernel_rfl)
  have HCOV : Hid (∀ u ∈ OV, u.oneCell' = true) := Lib.hid (by rw [hOV]; exact vb_one _)
  obtain ⟨RV, hRV⟩ : ∃ V, V = vb root := ⟨_, rfl⟩
  have HLRV : Hid (RV.length = 32) := Lib.hid (by rw [hRV, vb_length]; exact hroot.1)
  have HIRV : Hid ((Tryd.prog.info? 23).map (·.size) = some RV.length) := Lib.hid (by rw [HLRV.out]; kernel_rfl)
  have HCRV : Hid (∀ u ∈ RV, u.oneCell' = true) := Lib.hid (by rw [hRV]; exact vb_one _)
  obtain ⟨AV, hAV⟩ : ∃ V, V = vb a' := ⟨_, rfl⟩
  have HLAV : Hid (AV.length = 32) := Lib.hid (by rw [hAV, vb_length]; exact hac.1)
  have HIAV : Hid ((Tryd.prog.info? 23).map (·.size) = some AV.length) := Lib.hid (by rw [HLAV.out]; kernel_rfl)
  have HCAV : Hid (∀ u ∈ AV, u.oneCell' = true) := Lib.hid (by rw [hAV]; exact vb_one _)
  obtain ⟨DV, hDV⟩ : ∃ V, V = vb b' := ⟨_, rfl⟩
  have HLDV : Hid (DV.length = 32) := Lib.hid (by rw [hDV, vb_length]; exact hbc.1)
  have HIDV : Hid ((Tryd.prog.info? 23).map (·.size) = some DV.length) := Lib.hid (by rw [HLDV.out]; kernel_rfl)
  have HCDV : Hid (∀ u ∈ DV, u.oneCell' = true) := Lib.hid (by rw [hDV]; exact vb_one _)
  obtain ⟨RS, hRS⟩ : ∃ RS, RS = gupRows (s, s) (gwayF m n true).1 ps := ⟨_, rfl⟩
  rw [← hRS]
  obtain ⟨N, hN⟩ : ∃ N, N = RS.length := ⟨_, rfl⟩
  rw [← hN]
  have HU : Hid (∀ W, Keeps (fun _ => False) w W → Calls Tryd.prog 62 #[.int .i64 m, .int .i64 n, .bool true, .agg OV.toArray, .slice A K c] W fun e w' => ∃ B c', e = .returned (.tuple #[.agg AV.toArray, .agg DV.toArray, .slice B N c']) ∧ MineP W w' 22 B N c' RS) := Lib.hid fun W hW => by
    rw [hOV, hAV, hDV, ha', hb', hN, hRS]
    exact HU0 W hW
  have HEQ1 : Hid (∀ W, (Op.equalIn 10000 23 (.agg AV.toArray) (.agg OV.toArray)).run Tryd.prog W = .ok true W) := Lib.hid fun W => by
    have := run_eql_row W Tryd.underlying23 Tryd.underlying5 (by kernel_rfl) a' old hac.1 hold.1
    rw [decide_eq_true h1] at this
    rw [hAV, hOV]
    exact eql_in this
  have HEQ2 : Hid (∀ W, (Op.equalIn 10000 23 (.agg DV.toArray) (.agg RV.toArray)).run Tryd.prog W = .ok false W) := Lib.hid fun W => by
    have := run_eql_row W Tryd.underlying23 Tryd.underlying5 (by kernel_rfl) b' root hbc.1 hroot.1
    rw [decide_eq_false h2] at this
    rw [hDV, hRV]
    exact eql_in this
  have hwl : K ≤ 54 := by
    rw [hK]; unfold glenF
    have := gway_short m n 53 true (by omega)
    split <;> omega
  rw [← hK] at HE
  rw [← hOV, ← hRV]
  obtain ⟨W2, hW2⟩ : ∃ W2, W2 = (w.alloc (.cells OV.toArray 23)).alloc (.cells RV.toArray 23) := ⟨_, rfl⟩
  have hk2 : Keeps (fun _ => False) w W2 := by rw [hW2]; exact ((Keeps.refl _ w).alloc _).alloc _
  have HB1 : Hid (Blk W2 w.heap.size 23 OV) := Lib.hid (by rw [hW2]; exact (Blk.new w _ _).alloc _)
  have HB2 : Hid (Blk W2 (w.heap.size + 1) 23 RV) := Lib.hid (by
    have h5 := Blk.new (w.alloc (.cells OV.toArray 23)) 23 RV
    rw [World.size_alloc] at h5
    rw [hW2]; exact h5)
  have HK2 := Lib.hid hk2
  have cvq1 := fun W => HEQ1.out W
  have cvq2 := fun W => HEQ2.out W
  have n1 : ¬ (n : Int) < 0 := by omega
  have n2 : ¬ (9007199254740991 : Int) < (n : Int) := by omega
  have n3 : ¬ (m : Int) < 0 := by omega
  have n4 : ¬ (n : Int) < (m : Int) := by omega
  have n5 : (0 : Int) < (m : Int) := by omega
  have n6 : ((m : Int) == 0) = false := by simp; omega
  rw [hW2] at HB1 HB2 HK2
  clear hac hbc h1 h2 ha' hb' hOV hRV hAV hDV hRS hN hr hK hroot hold hs hdp HU0 hpre hps hW2 hk2
  go_enter Tryd.func31, Tryd.ntmps31
  go_wp2_with (first
    | (go_at_call 61; refine (HE.out _).mono ?_; rintro e w9 ⟨rfl, hw9⟩; subst hw9)
    | ((with_reducible show wpList _ _ _ (⟨some 59, Op.load 23 (.tmp 6), _, _, _, _⟩ :: _) _ _); refine wpList_load_whole rfl 23 _ rfl _ rfl HB1.out Tryd.underlying23 rfl HIOV.out ?_)
    | (go_at_call 62; refine (HU.out _ HK2.out).mono ?_; rintro e v6 ⟨B6, c6, rfl, hP6⟩; have HP6 := Lib.hid hP6; clear hP6)
    | ((with_reducible show wpList _ _ _ (⟨none, Op.store 23 (.tmp 14) _, _, _, _, _⟩ :: _) _ _); refine wpList_store_whole rfl 23 _ _ rfl AV rfl rfl ((Blk.new v6 23 (List.replicate 32 (Value.int .u8 0))).alloc _) (by rw [HLAV.out]; simp) HIAV.out HCAV.out ?_; refine gen_world (fun W => Blk W v6.heap.size 23 AV ∧ Blk W (v6.heap.size + 1) 23 (List.replicate 32 (Value.int .u8 0)) ∧ Keeps (fun _ => False) v6 W) ⟨((Blk.new v6 23 _).alloc _).setRow AV, (blk_new2 v6 _ _ _).setRow_far (by omega) _, (((Keeps.refl (fun _ => False) v6).alloc _).alloc _).setRow (.inr (Nat.le_refl _)) _⟩ ?_; rintro w7 ⟨hb7, hb8, hk7⟩; have HB7 := Lib.hid hb7; have HB8 := Lib.hid hb8; have HK7 := Lib.hid hk7; clear hb7 hb8 hk7)
    | ((with_reducible show wpList _ _ _ (⟨none, Op.store 23 (.tmp 15) _, _, _, _, _⟩ :: _) _ _); refine wpList_store_whole rfl 23 _ _ rfl DV rfl rfl HB8.out (by rw [HLDV.out]; simp) HIDV.out HCDV.out ?_; refine gen_world (fun W => Blk W v6.heap.size 23 AV ∧ Blk W (v6.heap.size + 1) 23 DV ∧ Blk W w.heap.size 23 OV ∧ Blk W (w.heap.size + 1) 23 RV ∧ Keeps (fun _ => False) v6 W) (by
        have k8 : Keeps (fun _ => False) v6 (w7.setRow (v6.heap.size + 1) DV.toArray) := HK7.out.setRow (.inr (by omega)) _
        exact ⟨HB7.out.setRow_far (by omega) _, HB8.out.setRow DV, k8.blk (HP6.out.keeps.blk HB1.out (fun h => h)) (fun h => h), k8.blk (HP6.out.keeps.blk HB2.out (fun h => h)) (fun h => h), k8⟩) ?_; rintro w8 ⟨hc1, hc2, hc3, hc4, hk8⟩; have HC1 := Lib.hid hc1; have HC2 := Lib.hid hc2; have HC3 := Lib.hid hc3; have HC4 := Lib.hid hc4; have HK8 := Lib.hid hk8; clear hc1 hc2 hc3 hc4 hk8)
    | ((with_reducible show wpList _ _ _ (⟨_, Op.load 23 (.tmp 14), _, _, _, _⟩ :: _) _ _); refine wpList_load_whole rfl 23 _ rfl _ rfl HC1.out Tryd.underlying23 rfl HIAV.out ?_)
    | ((with_reducible show wpList _ _ _ (⟨some 66, Op.load 23 (.tmp 6), _, _, _, _⟩ :: _) _ _); refine wpList_load_whole rfl 23 _ rfl _ rfl HC3.out Tryd.underlying23 rfl HIOV.out ?_)
    | ((with_reducible show wpList _ _ _ (⟨_, Op.load 23 (.tmp 15), _, _, _, _⟩ :: _) _ _); refine wpList_load_whole_g rfl 23 _ rfl _ rfl HC2.out Tryd.underlying23 rfl HIDV.out ?_)
    | ((with_reducible show wpList _ _ _ (⟨_, Op.load 23 (.tmp 8), _, _, _, _⟩ :: _) _ _); refine wpList_load_whole_g rfl 23 _ rfl _ rfl HC4.out Tryd.underlying23 rfl HIRV.out ?_))
  go_ret3
  exact ⟨B6, c6, rfl, (HP6.out.base HK2.out).keep HK8.out⟩
end Go.Proofs.YtknecjjdegngfaaDoor

