/-
  WALK: Fold of as many peaks as there must be.
-/
import Derived.Test.YtknecjjdegngfaaDoorFold2W
set_option linter.unusedSimpArgs false
namespace Go.Proofs.YtknecjjdegngfaaDoor
open Go Go.RowKit Go.Sha Go.Aff Go.Book
theorem foldF_cons (d : List Int) (l : List (List Int)) (h : l ≠ []) : foldF (d :: l) = pairF d (foldF l) := by
  cases l with
  | nil => exact absurd rfl h
  | cons e l => rfl
theorem foldF_drop (ds : List (List Int)) (k : Nat) (d : List Int) (hd : ds[k]? = some d) (hk : k + 1 < ds.length) : foldF (ds.drop k) = pairF d (foldF (ds.drop (k + 1))) := by
  have hk' : k < ds.length := by omega
  rw [List.drop_eq_getElem_cons hk', foldF_cons _ _ (by intro h; have := congrArg List.length h; rw [List.length_drop] at this; simp at this; omega)]
  rw [List.getElem?_eq_getElem hk'] at hd
  injection hd with hd
  rw [hd]
theorem foldF_last (ds : List (List Int)) (k : Nat) (d : List Int) (hd : ds[k]? = some d) (hk : k + 1 = ds.length) : foldF (ds.drop k) = d := by
  have hk' : k < ds.length := by omega
  rw [List.drop_eq_getElem_cons hk', List.drop_eq_nil_of_le (by omega)]
  rw [List.getElem?_eq_getElem hk'] at hd
  injection hd
set_option maxRecDepth 100000 in
set_option maxHeartbeats 4000000 in
theorem fold_none (w : World) (hG : Glob w) (A : Option Addr) (c : Nat) :
    Calls Tryd.prog 19 #[.int .i64 0, .slice A 0 c] w fun e w' => e = .returned (.tuple #[.agg (vb emptyF).toArray, .nilIface]) ∧ Keeps (fun _ => False) w w' := by
  have HZ := Lib.hid (Blk.new w 24 (List.replicate 32 (Value.int .u8 0)))
  have HO := Lib.hid fun W => ones_any W 0 (by omega)
  have HE := Lib.hid (empty_any _ (hG.keep ((Keeps.refl (fun _ => False) w).alloc (.cells (List.replicate 32 (Value.int .u8 0)).toArray 24)) (fun _ h => h.elim)))
  obtain ⟨DV, hDV⟩ : ∃ DV, DV = vb emptyF := ⟨_, rfl⟩
  have HD1 : Hid (∀ u ∈ DV, u.oneCell' = true) := Lib.hid (by rw [hDV]; exact vb_one _)
  have HDL : Hid (DV.length = 32) := Lib.hid (by rw [hDV, vb_length]; exact dig_empty.1)
  have HIN : Hid ((Tryd.prog.info? 24).map (·.size) = some DV.length) := Lib.hid (by rw [HDL.out]; kernel_rfl)
  rw [pc_zero] at HO
  rw [← hDV] at HE ⊢
  clear hDV hG
  go_enter Tryd.func19, Tryd.ntmps19
  go_wp2_with (first
    | (go_at_call 46; refine (HO.out _).mono ?_; rintro e w1 ⟨rfl, rfl⟩)
    | (go_at_call 15; refine HE.out.mono ?_; rintro e w6 ⟨rfl, hk6⟩; have HZ9 := Lib.hid (hk6.blk HZ.out (fun h => h)); have HK9 := Lib.hid (((Keeps.refl (fun _ => False) _).alloc _).trans hk6 (fun _ _ h => h)); clear hk6)
    | ((with_reducible show wpList _ _ _ (⟨none, Op.store 24 _ _, _, _, _, _⟩ :: _) _ _); refine wpList_store_whole rfl 24 _ _ rfl DV rfl rfl HZ9.out (by rw [HDL.out]; simp) HIN.out HD1.out ?_))
  refine bodyPost_ret (results_blk_tmp rfl _ _ rfl (HZ9.out.setRow DV) Tryd.underlying24 rfl HIN.out) rfl ⟨rfl, HK9.out.setRow (.inr (Nat.le_refl _)) _⟩
set_option maxRecDepth 100000 in
set_option maxHeartbeats 4000000 in
theorem fold_some (w : World) (hG : Glob w) (n q : Nat) (A : Option Addr) (c : Nat) (ds : List (List Int)) (hr : RdD w A (q + 1) ds) (hm : q + 1 = pc n) (hn : n ≤ 9007199254740991) :
    Calls Tryd.prog 19 #[.int .i64 n, .slice A (q + 1) c] w fun e w' => e = .returned (.tuple #[.agg (vb (foldF ds)).toArray, .nilIface]) ∧ Keeps (fun _ => False) w w' := by
  have hq : q + 1 ≤ 63 := by rw [hm]; exact pc_le 63 n (by omega)
  have hn0 : ((n : Int) == 0) = false := by
    rcases Nat.eq_zero_or_pos n with h | h
    · subst h; rw [pc_zero] at hm; omega
    · simp; omega
  have hdsl : ds.length = q + 1 := hr.1
  obtain ⟨g, o, dl, rfl, hdl, hll⟩ := hr.lies (k := q) (by omega)
  have hdd := hr.2.1.at_ hdl
  have HZ := Lib.hid (Blk.new w 24 (List.replicate 32 (Value.int .u8 0)))
  have HO := Lib.hid fun W => ones_any W n (by omega)
  obtain ⟨LV, hLV⟩ : ∃ LV, LV = vb dl := ⟨_, rfl⟩
  have hLVl : LV.length = 32 := by rw [hLV, vb_length]; exact hdd.1
  have HI1 : Hid ((Tryd.prog.info? 24).map (·.size) = some LV.length) := Lib.hid (by rw [hLVl]; kernel_rfl)
  have HL1 : Hid (Lies (w.alloc (.cells (List.replicate 32 (Value.int .u8 0)).toArray 24)) g (o + q * 32) LV) := Lib.hid (by
    obtain ⟨g2, o2, d2, e2, h2, l2⟩ := (hr.alloc (.cells (List.replicate 32 (Value.int .u8 0)).toArray 24)).lies (k := q) (by omega)
    injection e2 with e2
    injection e2 with e3 e4
    subst e3 e4
    obtain rfl : d2 = dl := by rw [hdl] at h2; injection h2 with h2; exact h2.symm
    rw [hLV]; exact l2)
  have HLO : Hid (∀ u ∈ LV, u.oneCell' = true) := Lib.hid (by rw [hLV]; exact vb_one _)
  have HR := Lib.hid hr
  have HDD := Lib.hid hdd
  have HDs := Lib.hid hdsl
  have HLast := Lib.hid (foldF_last ds q dl hdl hdsl.symm)
  rw [← hm] at HO
  have w1 : IntKind.u64.wrap (n : Int) = n := IntWalk.u64_in _ (by omega)
  have HLV := Lib.hid hLV
  have HLVl := Lib.hid hLVl
  have HB2 : Hid (Blk ((w.alloc (.cells (List.replicate 32 (Value.int .u8 0)).toArray 24)).alloc (.cells (List.replicate 32 (Value.int .u8 0)).toArray 24)) (w.heap.size + 1) 24 (List.replicate 32 (Value.int .u8 0))) := Lib.hid (by
    have h5 := Blk.new (w.alloc (.cells (List.replicate 32 (Value.int .u8 0)).toArray 24)) 24 (List.replicate 32 (Value.int .u8 0))
    rwa [World.size_alloc] at h5)
  obtain ⟨TV, hTV⟩ : ∃ TV, TV = vb (foldF ds) := ⟨_, rfl⟩
  have HT1 : Hid (∀ u ∈ TV, u.oneCell' = true) := Lib.hid (by rw [hTV]; exact vb_one _)
  have HTL : Hid (TV.length = 32) := Lib.hid (by rw [hTV, vb_length]; exact (dig_fold HR.out.2.1).1)
  have HTI : Hid ((Tryd.prog.info? 24).map (·.size) = some TV.length) := Lib.hid (by rw [HTL.out]; kernel_rfl)
  have HTV := Lib.hid hTV
  rw [← hTV]
  clear hTV
  clear hr hm hll hdl hLV hdd hdsl
  go_enter Tryd.func19, Tryd.ntmps19
  go_wp2_with (first
    | (go_at_call 46; refine (HO.out _).mono ?_; rintro e w1 ⟨rfl, rfl⟩)
    | ((with_reducible show wpList _ _ _ (⟨some 36, Op.load 24 _, _, _, _, _⟩ :: _) _ _); refine wpList_load_lies rfl 24 _ rfl _ _ _ rfl HL1.out Tryd.underlying24 rfl HI1.out ?_)
    | ((with_reducible show wpList _ _ _ (⟨none, Op.store 24 _ _, _, _, _, _⟩ :: _) _ _); refine wpList_store_whole rfl 24 _ _ rfl LV rfl rfl HB2.out (by rw [HLVl.out]; simp) HI1.out HLO.out ?_))
  have HZr := Lib.hid (Blk.new w 24 (List.replicate 32 (Value.int .u8 0)))
  go_loopw [8] (fun i wr => ∃ k : Nat, k ≤ q ∧ i = .int .i64 ((k : Int) - 1) ∧ Hid (Keeps (fun _ => False) w wr ∧ Blk wr w.heap.size 24 (List.replicate 32 (Value.int .u8 0)) ∧ Blk wr (w.heap.size + 1) 24 (vb (foldF (ds.drop k))))) (fun i _ => (intOf i + 1).toNat)
  case atStart =>
    refine ⟨q, by omega, by go_num, Lib.hid ⟨?_, ?_, ?_⟩⟩
    · exact (((Keeps.refl _ w).alloc _).alloc _).setRow (.inr (by simp)) _
    · exact ((HZr.out).alloc _).setRow_far (by simp) _
    · rw [HLast.out, ← HLV.out]
      exact HB2.out.setRow LV
  case round =>
    obtain ⟨k, hk, rfl, HT⟩ := hrel
    by_cases hlt : 0 < k
    · obtain ⟨j, rfl⟩ : ∃ j, k = j + 1 := ⟨k - 1, by omega⟩
      have hj : (((j + 1 : Nat) : Int) - 1) = (j : Int) := by omega
      rw [hj]
      obtain ⟨g2, o2, d, e2, hd, hl⟩ := (HR.out.keep HT.out.1 (no_out _ _)).lies (k := j) (by omega)
      injection e2 with e2
      injection e2 with e3 e4
      subst e3 e4
      have hddj := HR.out.2.1.at_ hd
      obtain ⟨R, hR⟩ : ∃ R, R = foldF (ds.drop (j + 1)) := ⟨_, rfl⟩
      have hfd : IsDig R := by rw [hR]; exact dig_fold (HR.out.2.1.drop _)
      obtain ⟨RV, hRV⟩ : ∃ RV, RV = vb R := ⟨_, rfl⟩
      obtain ⟨DV, hDV⟩ : ∃ DV, DV = vb (pairF d R) := ⟨_, rfl⟩
      have hnext : Hid (vb (foldF (ds.drop j)) = DV) := Lib.hid (by rw [foldF_drop ds j d hd (by rw [HDs.out]; omega), ← hR, hDV])
      have HD1 : Hid (∀ u ∈ DV, u.oneCell' = true) := Lib.hid (by rw [hDV]; exact vb_one _)
      have HDL : Hid (DV.length = 32) := Lib.hid (by rw [hDV, vb_length]; exact (dig_pair _ _).1)
      have HRL : Hid (RV.length = 32) := Lib.hid (by rw [hRV, vb_length]; exact hfd.1)
      have HIN : Hid ((Tryd.prog.info? 24).map (·.size) = some DV.length) := Lib.hid (by rw [HDL.out]; kernel_rfl)
      have HIR : Hid ((Tryd.prog.info? 24).map (·.size) = some RV.length) := Lib.hid (by rw [HRL.out]; kernel_rfl)
      have HI : Hid ((Tryd.prog.info? 24).map (·.size) = some (vb d).length) := Lib.hid (by rw [vb_length, hddj.1]; kernel_rfl)
      have HB : Hid (Blk wr (w.heap.size + 1) 24 RV) := Lib.hid (by rw [hRV, hR]; exact HT.out.2.2)
      have HRG : Hid (∀ W, Keeps (fun _ => False) wr W → W.rangeAt (w.heap.size + 1) 0 RV) := Lib.hid fun W hk' i v hv => by rw [Nat.zero_add, (hk'.blk HB.out (fun h => h)).cell, hv]
      have HL : Hid (∀ W, Keeps (fun _ => False) wr W → Lies W g (o + j * 32) (vb d)) := Lib.hid fun W hk' => by
        obtain ⟨g3, o3, d3, e3, h3, l3⟩ := (HR.out.keep (HT.out.1.trans hk' (fun _ _ h => h)) (no_out _ _)).lies (k := j) (by omega)
        injection e3 with e3
        injection e3 with e4 e5
        subst e4 e5
        obtain rfl : d3 = d := by rw [hd] at h3; injection h3 with h3; exact h3.symm
        exact l3
      have HP : Hid (∀ W, Keeps (fun _ => False) wr W → Calls Tryd.prog 13 #[.agg (vb d).toArray, .agg RV.toArray] W fun e w' => e = .returned (.agg DV.toArray) ∧ Keeps (fun _ => False) W w') := Lib.hid fun W hk' => by
        rw [hDV, hRV]
        exact pair_any W (hG.keep (HT.out.1.trans hk' (fun _ _ h => h)) (fun _ h => h.elim)) d R hddj.1 hfd.1 hddj.2 hfd.2
      have HJ := Lib.hid hj
      have hjq : j < q + 1 := by omega
      have hjq2 : (j : Int) < (q : Int) + 1 := by omega
      clear hddj hfd hRV hDV hR hd hl hj
      go_wp2
      refine wp_region_last (S := Keeps (fun _ => False) wr) 6 (by kernel_rfl) (Keeps.refl (fun _ => False) _).drew (fun hHeld => ?_)
      refine wpAnyZ_take (i := 0) (oi := ⟨some 44, _, _, _, _, _⟩) (v := ?_) rfl (by kernel_rfl) (by kernel_rfl) (by kernel_rfl) (by kernel_rfl) (fun _ _ _ h => h) (Or.inl ⟨by rfl, ?_⟩) hHeld ?_
      rotate_left
      · intro w' hSw
        go_simp
        first | done | rfl
      try simp only [Act.put, List.setIfInBounds_toArray, List.set_cons_zero, List.set_cons_succ]
      refine wpAnyZ_take (i := 1) (oi := ⟨some 45, _, _, _, _, _⟩) (v := ?_) rfl (by kernel_rfl) (by kernel_rfl) (by kernel_rfl) (by kernel_rfl) (fun _ _ _ h => h) (Or.inl ⟨by rfl, ?_⟩) hHeld ?_
      rotate_left
      · intro w' hSw
        go_simp
        first | done | rfl
      try simp only [Act.put, List.setIfInBounds_toArray, List.set_cons_zero, List.set_cons_succ]
      refine wpAnyZ_take (i := 2) (oi := ⟨some 46, _, _, _, _, _⟩) (v := ?_) rfl (by kernel_rfl) (by kernel_rfl) (by kernel_rfl) (by kernel_rfl) (fun _ _ _ h => h) (Or.inl ⟨by rfl, ?_⟩) hHeld ?_
      rotate_left
      · intro w' hSw
        go_simp
        first | done | rfl
      try simp only [Act.put, List.setIfInBounds_toArray, List.set_cons_zero, List.set_cons_succ]
      refine wpAnyZ_take (i := 3) (oi := ⟨some 47, _, _, _, _, _⟩) (v := _) rfl (by kernel_rfl) (by kernel_rfl) (by kernel_rfl) (by kernel_rfl) (fun _ _ _ h => h) (yieldsIf_load_mid (by rfl) _ _ rfl _ _ rfl (vb d) _ (fun w' h => lies_range (HL.out _ h)) Tryd.underlying24 rfl HI.out) hHeld ?_
      try simp only [Act.put, List.setIfInBounds_toArray, List.set_cons_zero, List.set_cons_succ]
      refine wpAnyZ_take (i := 4) (oi := ⟨some 48, _, _, _, _, _⟩) (v := _) rfl (by kernel_rfl) (by kernel_rfl) (by kernel_rfl) (by kernel_rfl) (fun _ _ _ h => h) (yieldsIf_load_mid (by rfl) _ _ rfl _ _ rfl RV _ (fun w' h => HRG.out _ h) Tryd.underlying24 rfl HIR.out) hHeld ?_
      try simp only [Act.put, List.setIfInBounds_toArray, List.set_cons_zero, List.set_cons_succ]
      refine wpAnyZ_step (i := 5) (o := ⟨some 49, _, _, _, _, _⟩) (by kernel_rfl) rfl (fun K hK => ?_)
      go_simp
      refine (HP.out _ hHeld).mono ?_
      rintro e v6 ⟨rfl, hk6⟩
      have hq6 := hHeld.trans hk6 (fun _ _ h => h)
      show K _ v6
      refine hK.out _ _ hq6 (fun hHeld => ?_)
      clear hK K
      try simp only [Act.put, List.setIfInBounds_toArray, List.set_cons_zero, List.set_cons_succ]
      refine wpAnyZ_last (o := ⟨none, _, _, _, _, _⟩) (by kernel_rfl) (by kernel_rfl) rfl (fun K hK => ?_)
      refine stepH_store rfl 24 _ _ rfl DV rfl rfl (hHeld.blk HB.out (fun h => h)) (by rw [HDL.out, HRL.out]) HIN.out HD1.out ?_
      refine hK.out _ _ ?_
      clear hK K
      try simp only [Act.put, List.setIfInBounds_toArray, List.set_cons_zero, List.set_cons_succ]
      have HQ : Hid (Keeps (fun _ => False) wr v6) := Lib.hid hq6
      go_wp2
      go_round
      case rel =>
        refine ⟨j, by omega, by go_num, Lib.hid ⟨(HT.out.1.trans HQ.out (fun _ _ h => h)).setRow (.inr (by omega)) _, (HQ.out.blk HT.out.2.1 (fun h => h)).setRow_far (by omega) _, ?_⟩⟩
        rw [hnext.out]
        exact (HQ.out.blk HB.out (fun h => h)).setRow DV
      case measure => simp [intOf]
    · obtain rfl : k = 0 := by omega
      have HB : Hid (Blk wr (w.heap.size + 1) 24 TV) := Lib.hid (by rw [HTV.out]; exact HT.out.2.2)
      have HZ2 : Hid (Blk wr w.heap.size 24 (List.replicate 32 (Value.int .u8 0))) := Lib.hid HT.out.2.1
      go_wp2_with (first
        | ((with_reducible show wpList _ _ _ (⟨_, Op.load 24 _, _, _, _, _⟩ :: _) _ _); refine wpList_load_whole rfl 24 _ rfl _ rfl HB.out Tryd.underlying24 rfl HTI.out ?_)
        | ((with_reducible show wpList _ _ _ (⟨none, Op.store 24 _ _, _, _, _, _⟩ :: _) _ _); refine wpList_store_whole rfl 24 _ _ rfl TV rfl rfl HZ2.out (by rw [HTL.out]; simp) HTI.out HT1.out ?_))
      refine bodyPost_ret (results_blk_tmp rfl _ _ rfl (HZ2.out.setRow TV) Tryd.underlying24 rfl HTI.out) rfl ⟨rfl, HT.out.1.setRow (.inr (Nat.le_refl _)) _⟩
end Go.Proofs.YtknecjjdegngfaaDoor
