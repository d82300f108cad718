/-
  WALKS: climb over digests; the closures of CheckEntry.
-/
import Derived.Test.YtknecjjdegngfaaDoorWayW
import Derived.Test.YtknecjjdegngfaaDoorRootW
set_option linter.unusedSimpArgs false
namespace Go.Book
open Go Go.Aff Go.Sha
def aheadF (s d : List Int) : List Int := pairF d s
end Go.Book
namespace Go.Proofs.YtknecjjdegngfaaDoor
open Go Go.RowKit Go.Sha Go.Aff Go.Book
set_option maxRecDepth 100000 in
/-- d itself. -/
theorem self_any (W : World) (d : List Int) (hd : IsDig d) : Calls Tryd.prog 50 #[.agg (vb d).toArray] W fun e w' => e = .returned (.agg (vb (id d)).toArray) ∧ Keeps (fun _ => False) W w' := by
  show Calls _ _ _ _ fun e w' => e = .returned (.agg (vb d).toArray) ∧ Keeps (fun _ => False) W w'
  obtain ⟨DV, hDV⟩ : ∃ DV, DV = vb d := ⟨_, rfl⟩
  have HD1 : Hid (∀ u ∈ DV, u.oneCell' = true) := Lib.hid (by rw [hDV]; exact vb_one _)
  have HDL : Hid (DV.length = 32) := Lib.hid (by rw [hDV, vb_length]; exact hd.1)
  have HIN : Hid ((Tryd.prog.info? 24).map (·.size) = some DV.length) := Lib.hid (by rw [HDL.out]; kernel_rfl)
  rw [← hDV]
  have HB1 : Hid (Blk ((W.alloc (.cells DV.toArray 24)).alloc (.cells (List.replicate 32 (Value.int .u8 0)).toArray 24)) W.heap.size 24 DV) := Lib.hid ((Blk.new W _ _).alloc _)
  have HB2 : Hid (Blk ((W.alloc (.cells DV.toArray 24)).alloc (.cells (List.replicate 32 (Value.int .u8 0)).toArray 24)) (W.heap.size + 1) 24 (List.replicate 32 (Value.int .u8 0))) := Lib.hid (by
    have h5 := Blk.new (W.alloc (.cells DV.toArray 24)) 24 (List.replicate 32 (Value.int .u8 0))
    rwa [World.size_alloc] at h5)
  clear hDV hd
  go_enter Tryd.func50, Tryd.ntmps50
  go_wp2_with (first
    | ((with_reducible show wpList _ _ _ (⟨_, Op.load 24 _, _, _, _, _⟩ :: _) _ _); refine wpList_load_whole rfl 24 _ rfl _ rfl HB1.out Tryd.underlying24 rfl HIN.out ?_)
    | ((with_reducible show wpList _ _ _ (⟨none, Op.store 24 _ _, _, _, _, _⟩ :: _) _ _); refine wpList_store_whole rfl 24 _ _ rfl DV rfl rfl HB2.out (by rw [HDL.out]; simp) HIN.out HD1.out ?_))
  refine bodyPost_ret (results_blk rfl _ _ rfl (HB2.out.setRow DV) Tryd.underlying24 rfl HIN.out) rfl ⟨rfl, (((Keeps.refl _ W).alloc _).alloc _).setRow (.inr (by omega)) _⟩
set_option maxRecDepth 100000 in
set_option maxHeartbeats 1000000 in
/-- a digest ahead of another one. -/
theorem ahead_any (W : World) (hG : Glob W) (s d : List Int) (hs : s.length = 32 ∧ IsBytes s) (hd : IsDig d) : Calls Tryd.prog 51 #[.agg (vb s).toArray, .agg (vb d).toArray] W fun e w' => e = .returned (.agg (vb (aheadF s d)).toArray) ∧ Keeps (fun _ => False) W w' := by
  show Calls _ _ _ _ fun e w' => e = .returned (.agg (vb (pairF d s)).toArray) ∧ Keeps (fun _ => False) W w'
  obtain ⟨DV, hDV⟩ : ∃ DV, DV = vb (pairF d s) := ⟨_, rfl⟩
  obtain ⟨SV, hSV⟩ : ∃ SV, SV = vb s := ⟨_, rfl⟩
  obtain ⟨EV, hEV⟩ : ∃ EV, EV = vb d := ⟨_, rfl⟩
  have HD1 : Hid (∀ u ∈ DV, u.oneCell' = true) := Lib.hid (by rw [hDV]; exact vb_one _)
  have HDL : Hid (DV.length = 32) := Lib.hid (by rw [hDV, vb_length]; exact (dig_pair _ _).1)
  have HSL : Hid (SV.length = 32) := Lib.hid (by rw [hSV, vb_length]; exact hs.1)
  have HEL : Hid (EV.length = 32) := Lib.hid (by rw [hEV, vb_length]; exact hd.1)
  have HIN : Hid ((Tryd.prog.info? 24).map (·.size) = some DV.length) := Lib.hid (by rw [HDL.out]; kernel_rfl)
  have HIS : Hid ((Tryd.prog.info? 24).map (·.size) = some SV.length) := Lib.hid (by rw [HSL.out]; kernel_rfl)
  have HIE : Hid ((Tryd.prog.info? 24).map (·.size) = some EV.length) := Lib.hid (by rw [HEL.out]; kernel_rfl)
  obtain ⟨W3, hW3⟩ : ∃ W3, W3 = ((W.alloc (.cells SV.toArray 24)).alloc (.cells EV.toArray 24)).alloc (.cells (List.replicate 32 (Value.int .u8 0)).toArray 24) := ⟨_, rfl⟩
  have hk3 : Keeps (fun _ => False) W W3 := by rw [hW3]; exact (((Keeps.refl _ W).alloc _).alloc _).alloc _
  have HB1 : Hid (Blk W3 W.heap.size 24 SV) := Lib.hid (by rw [hW3]; exact ((Blk.new W _ _).alloc _).alloc _)
  have HB2 : Hid (Blk W3 (W.heap.size + 1) 24 EV) := Lib.hid (by
    have h5 := Blk.new (W.alloc (.cells SV.toArray 24)) 24 EV
    rw [World.size_alloc] at h5
    rw [hW3]; exact h5.alloc _)
  have HB3 : Hid (Blk W3 (W.heap.size + 1 + 1) 24 (List.replicate 32 (Value.int .u8 0))) := Lib.hid (by
    have h5 := Blk.new ((W.alloc (.cells SV.toArray 24)).alloc (.cells EV.toArray 24)) 24 (List.replicate 32 (Value.int .u8 0))
    rw [World.size_alloc, World.size_alloc] at h5
    rw [hW3]; exact h5)
  have HP := Lib.hid (pair_any W3 (hG.keep hk3 (fun _ h => h.elim)) d s hd.1 hs.1 hd.2 hs.2)
  rw [← hDV, ← hSV, ← hEV] at HP
  rw [← hDV, ← hSV, ← hEV]
  have HK3 := Lib.hid hk3
  rw [hW3] at HB1 HB2 HB3 HP HK3
  clear hDV hSV hEV hs hd hG hk3 hW3
  go_enter Tryd.func51, Tryd.ntmps51
  go_wp2_with (first
    | ((with_reducible show wpList _ _ _ (⟨some 5, Op.load 24 _, _, _, _, _⟩ :: _) _ _); refine wpList_load_whole rfl 24 _ rfl _ rfl HB2.out Tryd.underlying24 rfl HIE.out ?_)
    | ((with_reducible show wpList _ _ _ (⟨some 6, Op.load 24 _, _, _, _, _⟩ :: _) _ _); refine wpList_load_whole rfl 24 _ rfl _ rfl HB1.out Tryd.underlying24 rfl HIS.out ?_)
    | (go_at_call 13; refine HP.out.mono ?_; rintro e w6 ⟨rfl, hk6⟩; have HB9 := Lib.hid (hk6.blk HB3.out (fun h => h)); have HK9 := Lib.hid (HK3.out.trans hk6 (fun _ _ h => h)); clear hk6)
    | ((with_reducible show wpList _ _ _ (⟨none, Op.store 24 _ _, _, _, _, _⟩ :: _) _ _); refine wpList_store_whole rfl 24 _ _ rfl DV rfl rfl HB9.out (by rw [HDL.out]; simp) HIN.out HD1.out ?_))
  refine bodyPost_ret (results_blk rfl _ _ rfl (HB9.out.setRow DV) Tryd.underlying24 rfl HIN.out) rfl ⟨rfl, HK9.out.setRow (.inr (by omega)) _⟩
theorem join_any (W : World) (hG : Glob W) (s d : List Int) (hs : s.length = 32 ∧ IsBytes s) (hd : IsDig d) : Calls Tryd.prog 13 #[.agg (vb s).toArray, .agg (vb (id d)).toArray] W fun e w' => e = .returned (.agg (vb (pairF s (id d))).toArray) ∧ Keeps (fun _ => False) W w' :=
  pair_any W hG s d hs.1 hd.1 hs.2 hd.2
def stclimbD (s : List Int) (b : Bool) (d : List Int) : List Int := if b then pairF s (id d) else aheadF s d
theorem ok_climbD (s : List Int) (b : Bool) (d : List Int) (_ : s.length = 32 ∧ IsBytes s) (_ : IsDig d) : (stclimbD s b d).length = 32 ∧ IsBytes (stclimbD s b d) := by
  unfold stclimbD
  split
  · exact dig_pair _ _
  · exact dig_pair _ _
theorem snocclimbD (s : List Int) (way : List Bool) (ps : List (List Int)) (k : Nat) (b : Bool) (d : List Int) (hw : way[k]? = some b) (hp : ps[k]? = some d) :
    climbF pairF id aheadF s (way.take (k + 1)) (ps.take (k + 1)) = stclimbD (climbF pairF id aheadF s (way.take k) (ps.take k)) b d := by
  have h1 := (List.getElem?_eq_some_iff.1 hw).1
  have h2 := (List.getElem?_eq_some_iff.1 hp).1
  rw [List.take_add_one, List.take_add_one, hw, hp, climb_app _ _ _ _ _ _ _ _ (by rw [List.length_take, List.length_take]; omega)]
  rfl
set_option maxRecDepth 100000 in
set_option maxHeartbeats 8000000 in
theorem climbD (w : World) (hG : Glob w) (s : List Int) (hs : s.length = 32 ∧ IsBytes s) (Aw : Option Addr) (K cw : Nat) (way : List Bool) (hway : way.length = K) (hrw : Rd w Aw K (vbool way)) (Ap : Option Addr) (cp : Nat) (ps : List (List Int)) (hrp : RdD w Ap K ps) (hK : K ≤ 65536) :
    Calls Tryd.prog 52 #[.agg (vb s).toArray, .slice Aw K cw, .slice Ap K cp, (Value.func (.func 13) #[] #[]), (Value.func (.func 50) #[] #[]), (Value.func (.func 51) #[] #[])] w fun e w' => e = .returned (.agg (vb (climbF pairF id aheadF s way ps)).toArray) ∧ Keeps (fun _ => False) w w' := by
  have hok : ∀ k, k ≤ K → (climbF pairF id aheadF s (way.take k) (ps.take k)).length = 32 ∧ IsBytes (climbF pairF id aheadF s (way.take k) (ps.take k)) := by
    intro k
    induction k with
    | zero => intro _; simpa [climbF] using hs
    | succ k ih =>
      intro hk
      obtain ⟨b, hb⟩ : ∃ b, way[k]? = some b := ⟨_, List.getElem?_eq_getElem (by omega)⟩
      obtain ⟨d, hd⟩ : ∃ d, ps[k]? = some d := ⟨_, List.getElem?_eq_getElem (by have := hrp.1; omega)⟩
      rw [snocclimbD s way ps k b d hb hd]
      exact ok_climbD _ b d (ih (by omega)) (hrp.2.1.at_ hd)
  have hfin : climbF pairF id aheadF s way ps = climbF pairF id aheadF s (way.take K) (ps.take K) := by rw [List.take_of_length_le (by omega), List.take_of_length_le (by have := hrp.1; omega)]
  rw [hfin]
  obtain ⟨C, hC⟩ : ∃ C : Nat → List Int, C = fun k => climbF pairF id aheadF s (way.take k) (ps.take k) := ⟨_, rfl⟩
  have hC0 : C 0 = s := by rw [hC]; simp [climbF]
  have hCk : ∀ k b d, way[k]? = some b → ps[k]? = some d → C (k + 1) = stclimbD (C k) b d := fun k b d h1 h2 => by rw [hC]; exact snocclimbD s way ps k b d h1 h2
  have hCok : ∀ k, k ≤ K → (C k).length = 32 ∧ IsBytes (C k) := by rw [hC]; exact hok
  have hCe : climbF pairF id aheadF s (way.take K) (ps.take K) = C K := by rw [hC]
  rw [hCe]
  obtain ⟨SV, hSV⟩ : ∃ SV, SV = vb s := ⟨_, rfl⟩
  have HSV := Lib.hid hSV
  rw [← hSV]
  have HC0 := Lib.hid hC0
  have HCK := Lib.hid hCk
  have HCO := Lib.hid hCok
  have HG := Lib.hid hG
  have HRW := Lib.hid hrw
  have HRPP := Lib.hid hrp
  have HWL := Lib.hid hway
  have HBS : Hid (Blk ((w.alloc (.cells SV.toArray 24)).alloc (.cells (List.replicate 32 (Value.int .u8 0)).toArray 24)) w.heap.size 24 SV) := Lib.hid ((Blk.new w _ _).alloc _)
  have HBZ : Hid (Blk ((w.alloc (.cells SV.toArray 24)).alloc (.cells (List.replicate 32 (Value.int .u8 0)).toArray 24)) (w.heap.size + 1) 24 (List.replicate 32 (Value.int .u8 0))) := Lib.hid (by
    have h5 := Blk.new (w.alloc (.cells SV.toArray 24)) 24 (List.replicate 32 (Value.int .u8 0))
    rwa [World.size_alloc] at h5)
  clear hok hfin hC hC0 hCk hCok hCe hs hway hrw hrp hG hSV
  go_enter Tryd.func52, Tryd.ntmps52
  go_wp2
  go_loopw [13, 17] (fun _ i wr => ∃ k : Nat, k ≤ K ∧ i = .int .i64 k ∧ Hid (Blk wr w.heap.size 24 (vb (C k)) ∧ Blk wr (w.heap.size + 1) 24 (List.replicate 32 (Value.int .u8 0)) ∧ Keeps (fun _ => False) w wr)) (fun _ i _ => K - (intOf i).toNat)
  case atStart =>
    refine ⟨0, by omega, rfl, Lib.hid ⟨?_, HBZ.out, ((Keeps.refl _ w).alloc _).alloc _⟩⟩
    rw [HC0.out, ← HSV.out]
    exact HBS.out
  case round =>
    obtain ⟨k, hk, rfl, HT⟩ := hrel
    have hcl : (vb (C k)).length = 32 := by rw [vb_length]; exact (HCO.out k hk).1
    by_cases hlt : k < K
    · obtain ⟨b, hb⟩ : ∃ b, way[k]? = some b := ⟨_, List.getElem?_eq_getElem (by have := HWL.out; omega)⟩
      obtain ⟨g, o, d, rfl, hd, hl⟩ := (HRPP.out.keep HT.out.2.2 (no_out _ _)).lies hlt
      have hdd := HRPP.out.2.1.at_ hd
      obtain ⟨g2, o2, rfl, hcw⟩ := HRW.out.2 (by omega)
      have hlt2 : g2 < w.heap.size := World.block_lt_of_cell? _ _ ((hcw k hlt).trans (by rw [vbool, List.getElem?_map, hb]; rfl))
      have hcwb : ∀ W, Keeps (fun _ => False) wr W → W.cell? ⟨g2, o2 + k, none⟩ = some (.bool b) := fun W hW => by
        have h9 : w.cell? ⟨g2, o2 + k, none⟩ = some (.bool b) := (hcw k hlt).trans (by rw [vbool, List.getElem?_map, hb]; rfl)
        rw [← h9]
        exact (HT.out.2.2.trans hW (fun _ _ h => h)).cell (p := ⟨g2, o2 + k, none⟩) hlt2 (fun h => h)
      have hnx := HCK.out k b d hb hd
      have hcok := HCO.out k hk
      have hnok := HCO.out (k + 1) (by omega)
      obtain ⟨cur, hcur⟩ : ∃ c, c = C k := ⟨_, rfl⟩
      rw [← hcur] at hnx hcok hcl
      obtain ⟨CV, hCV⟩ : ∃ CV, CV = vb cur := ⟨_, rfl⟩
      obtain ⟨PV, hPV⟩ : ∃ PV, PV = vb d := ⟨_, rfl⟩
      obtain ⟨NV, hNV⟩ : ∃ NV, NV = vb (C (k + 1)) := ⟨_, rfl⟩
      have HNVV := Lib.hid hNV
      have HCL : Hid (CV.length = 32) := Lib.hid (by rw [hCV]; exact hcl)
      have HNL : Hid (NV.length = 32) := Lib.hid (by rw [hNV, vb_length]; exact hnok.1)
      have HN1 : Hid (∀ u ∈ NV, u.oneCell' = true) := Lib.hid (by rw [hNV]; exact vb_one _)
      have HP1 : Hid (∀ u ∈ PV, u.oneCell' = true) := Lib.hid (by rw [hPV]; exact vb_one _)
      have HPL : Hid (PV.length = 32) := Lib.hid (by rw [hPV, vb_length]; exact hdd.1)
      have HCI : Hid ((Tryd.prog.info? 24).map (·.size) = some CV.length) := Lib.hid (by rw [HCL.out]; kernel_rfl)
      have HNI : Hid ((Tryd.prog.info? 24).map (·.size) = some NV.length) := Lib.hid (by rw [HNL.out]; kernel_rfl)
      have HPI : Hid ((Tryd.prog.info? 24).map (·.size) = some PV.length) := Lib.hid (by rw [HPL.out]; kernel_rfl)
      have HLp : Hid (Lies wr g (o + k * 32) PV) := Lib.hid (by rw [hPV]; exact hl)
      have HZP := Lib.hid (Blk.new wr 24 (List.replicate 32 (Value.int .u8 0)))
      have HBK : Hid (Blk wr w.heap.size 24 CV) := Lib.hid (by rw [hCV, hcur]; exact HT.out.1)
      have HCWB := Lib.hid hcwb
      have HDD := Lib.hid hdd
      have HCOK := Lib.hid hcok
      have HCVV := Lib.hid hCV
      have HPVV := Lib.hid hPV
      have HNX := Lib.hid hnx
      have HKW := Lib.hid HT.out.2.2
      have HBZZ := Lib.hid HT.out.2.1
      have hlw : Hid (w.heap.size + 2 ≤ wr.heap.size) := Lib.hid (by have := HT.out.2.1.lt; omega)
      clear hcl hb hd hl hdd hcw hcwb hnx hcok hnok hCV hPV hNV hcur
      cases b with
      | true =>
        go_wp2_with (first
          | ((with_reducible show wpList _ _ _ (⟨some 21, Op.load 24 _, _, _, _, _⟩ :: _) _ _); refine wpList_load_lies rfl 24 _ rfl _ _ _ rfl HLp.out Tryd.underlying24 rfl HPI.out ?_)
          | ((with_reducible show wpList _ _ _ (⟨none, Op.store 24 _ _, _, _, _, _⟩ :: _) _ _); refine wpList_store_whole rfl 24 _ _ rfl PV rfl rfl HZP.out (by rw [HPL.out]; simp) HPI.out HP1.out ?_; refine gen_world (fun W => Blk W wr.heap.size 24 PV ∧ Keeps (fun _ => False) wr W) ⟨HZP.out.setRow PV, ((Keeps.refl _ wr).alloc _).setRow (.inr (Nat.le_refl _)) _⟩ ?_; rintro w3 ⟨hbp3, hk3⟩; have cw3 := HCWB.out w3 hk3; have HBP3 := Lib.hid hbp3; have HK3 := Lib.hid hk3; clear hbp3 hk3))
        have HBC : Hid (Blk w3 w.heap.size 24 CV) := Lib.hid (HK3.out.blk HBK.out (fun h => h))
        have HRC : Hid (∀ W, Keeps (fun _ => False) w3 W → W.rangeAt w.heap.size 0 CV) := Lib.hid fun W hW j v hv => by rw [Nat.zero_add, (hW.blk HBC.out (fun h => h)).cell, hv]
        have HRP : Hid (∀ W, Keeps (fun _ => False) w3 W → W.rangeAt wr.heap.size 0 PV) := Lib.hid fun W hW j v hv => by rw [Nat.zero_add, (hW.blk HBP3.out (fun h => h)).cell, hv]
        obtain ⟨OV, hOV⟩ : ∃ OV, OV = vb (id d) := ⟨_, rfl⟩
        have HOF : Hid (∀ W, Keeps (fun _ => False) w3 W → Calls Tryd.prog 50 #[.agg PV.toArray] W fun e w' => e = .returned (.agg OV.toArray) ∧ Keeps (fun _ => False) W w') := Lib.hid fun W hW => by
          rw [hOV, HPVV.out]
          exact self_any W d HDD.out
        have HJN : Hid (∀ W, Keeps (fun _ => False) w3 W → Calls Tryd.prog 13 #[.agg CV.toArray, .agg OV.toArray] W fun e w' => e = .returned (.agg NV.toArray) ∧ Keeps (fun _ => False) W w') := Lib.hid fun W hW => by
          rw [hOV, HCVV.out, HNVV.out, HNX.out]
          exact join_any W (HG.out.keep ((HKW.out.trans HK3.out (fun _ _ h => h)).trans hW (fun _ _ h => h)) (fun _ h => h.elim)) cur d HCOK.out HDD.out
        clear hOV
        go_wp2
        refine wp_region_last (S := Keeps (fun _ => False) w3) 6 (by kernel_rfl) (Keeps.refl (fun _ => False) _).drew (fun hHeld => ?_)
        refine wpAnyZ_take (i := 0) (oi := ⟨some 26, _, _, _, _, _⟩) (v := ?_) rfl (by kernel_rfl) (by kernel_rfl) (by kernel_rfl) (by kernel_rfl) (fun _ _ _ h => h) (Or.inl ⟨by rfl, ?_⟩) hHeld ?_
        rotate_left
        · intro w' hSw
          go_simp
          first | done | rfl
        try simp only [Act.put, List.setIfInBounds_toArray, List.set_cons_zero, List.set_cons_succ]
        refine wpAnyZ_take (i := 1) (oi := ⟨some 27, _, _, _, _, _⟩) (v := _) rfl (by kernel_rfl) (by kernel_rfl) (by kernel_rfl) (by kernel_rfl) (fun _ _ _ h => h) (yieldsIf_load_mid (by rfl) _ _ rfl _ _ rfl CV _ (fun w' h => HRC.out _ h) Tryd.underlying24 rfl HCI.out) hHeld ?_
        try simp only [Act.put, List.setIfInBounds_toArray, List.set_cons_zero, List.set_cons_succ]
        refine wpAnyZ_take (i := 2) (oi := ⟨some 28, _, _, _, _, _⟩) (v := ?_) rfl (by kernel_rfl) (by kernel_rfl) (by kernel_rfl) (by kernel_rfl) (fun _ _ _ h => h) (Or.inl ⟨by rfl, ?_⟩) hHeld ?_
        rotate_left
        · intro w' hSw
          go_simp
          first | done | rfl
        try simp only [Act.put, List.setIfInBounds_toArray, List.set_cons_zero, List.set_cons_succ]
        refine wpAnyZ_take (i := 3) (oi := ⟨some 29, _, _, _, _, _⟩) (v := _) rfl (by kernel_rfl) (by kernel_rfl) (by kernel_rfl) (by kernel_rfl) (fun _ _ _ h => h) (yieldsIf_load_mid (by rfl) _ _ rfl _ _ rfl PV _ (fun w' h => HRP.out _ h) Tryd.underlying24 rfl HPI.out) hHeld ?_
        try simp only [Act.put, List.setIfInBounds_toArray, List.set_cons_zero, List.set_cons_succ]
        refine wpAnyZ_step (i := 4) (o := ⟨some 30, _, _, _, _, _⟩) (by kernel_rfl) rfl (fun K hK => ?_)
        go_simp
        refine (HOF.out _ hHeld).mono ?_
        rintro e v4 ⟨rfl, hk4⟩
        have hq4 := hHeld.trans hk4 (fun _ _ h => h)
        refine hK.out _ _ hq4 (fun hHeld => ?_)
        clear hK K
        try simp only [Act.put, List.setIfInBounds_toArray, List.set_cons_zero, List.set_cons_succ]
        refine wpAnyZ_step (i := 5) (o := ⟨some 31, _, _, _, _, _⟩) (by kernel_rfl) rfl (fun K hK => ?_)
        go_simp
        refine (HJN.out _ hHeld).mono ?_
        rintro e v5 ⟨rfl, hk5⟩
        have hq5 := hHeld.trans hk5 (fun _ _ h => h)
        refine hK.out _ _ hq5 (fun hHeld => ?_)
        clear hK K
        try simp only [Act.put, List.setIfInBounds_toArray, List.set_cons_zero, List.set_cons_succ]
        refine wpAnyZ_last (o := ⟨none, _, _, _, _, _⟩) (by kernel_rfl) (by kernel_rfl) rfl (fun K hK => ?_)
        refine stepH_store rfl 24 _ _ rfl NV rfl rfl (hHeld.blk HBC.out (fun h => h)) (by rw [HCL.out, HNL.out]) HNI.out HN1.out ?_
        refine hK.out _ _ ?_
        clear hK K
        try simp only [Act.put, List.setIfInBounds_toArray, List.set_cons_zero, List.set_cons_succ]
        have HQ : Hid (Keeps (fun _ => False) w3 v5) := Lib.hid hq5
        go_wp2
        go_round
        case rel =>
          refine ⟨k + 1, by omega, by go_num, Lib.hid ⟨?_, ((HQ.out.blk (HK3.out.blk HBZZ.out (fun h => h)) (fun h => h))).setRow_far (by omega) _, ((HKW.out.trans HK3.out (fun _ _ h => h)).trans HQ.out (fun _ _ h => h)).setRow (.inr (Nat.le_refl _)) _⟩⟩
          rw [← HNVV.out]
          exact (HQ.out.blk HBC.out (fun h => h)).setRow NV
        case measure => simp [intOf]; omega
      | false =>
        go_wp2_with (first
          | ((with_reducible show wpList _ _ _ (⟨some 21, Op.load 24 _, _, _, _, _⟩ :: _) _ _); refine wpList_load_lies rfl 24 _ rfl _ _ _ rfl HLp.out Tryd.underlying24 rfl HPI.out ?_)
          | ((with_reducible show wpList _ _ _ (⟨some 33, Op.load 24 _, _, _, _, _⟩ :: _) _ _); refine wpList_load_whole rfl 24 _ rfl _ rfl (HK3.out.blk HBK.out (fun h => h)) Tryd.underlying24 rfl HCI.out ?_)
          | ((with_reducible show wpList _ _ _ (⟨some 34, Op.load 24 _, _, _, _, _⟩ :: _) _ _); refine wpList_load_whole rfl 24 _ rfl _ rfl HBP3.out Tryd.underlying24 rfl HPI.out ?_)
          | (go_at_call 51; refine (HXO.out w3 HK3.out).mono ?_; rintro e v5 ⟨rfl, hk5⟩; have HQ := Lib.hid hk5; have HBC := Lib.hid (hk5.blk (HK3.out.blk HBK.out (fun h => h)) (fun h => h)); clear hk5)
          | ((with_reducible show wpList _ _ _ (⟨none, Op.store 24 (.tmp 6) _, _, _, _, _⟩ :: _) _ _); refine wpList_store_whole rfl 24 _ _ rfl NV rfl rfl HBC.out (by rw [HCL.out, HNL.out]) HNI.out HN1.out ?_)
          | ((with_reducible show wpList _ _ _ (⟨none, Op.store 24 (.tmp 14) _, _, _, _, _⟩ :: _) _ _); refine wpList_store_whole rfl 24 _ _ rfl PV rfl rfl HZP.out (by rw [HPL.out]; simp) HPI.out HP1.out ?_; refine gen_world (fun W => Blk W wr.heap.size 24 PV ∧ Keeps (fun _ => False) wr W) ⟨HZP.out.setRow PV, ((Keeps.refl _ wr).alloc _).setRow (.inr (Nat.le_refl _)) _⟩ ?_; rintro w3 ⟨hbp3, hk3⟩; have cw3 := HCWB.out w3 hk3; have HBP3 := Lib.hid hbp3; have HK3 := Lib.hid hk3; have HXO : Hid (∀ W, Keeps (fun _ => False) wr W → Calls Tryd.prog 51 #[.agg CV.toArray, .agg PV.toArray] W fun e w' => e = .returned (.agg NV.toArray) ∧ Keeps (fun _ => False) W w') := Lib.hid fun W hW => (by { rw [HPVV.out, HCVV.out, HNVV.out, HNX.out]; exact ahead_any W (HG.out.keep (HKW.out.trans hW (fun _ _ h => h)) (fun _ h => h.elim)) cur d HCOK.out HDD.out }); clear hbp3 hk3))
        go_round
        case rel =>
          refine ⟨k + 1, by omega, by go_num, Lib.hid ⟨?_, ((HQ.out.blk (HK3.out.blk HBZZ.out (fun h => h)) (fun h => h))).setRow_far (by omega) _, ((HKW.out.trans HK3.out (fun _ _ h => h)).trans HQ.out (fun _ _ h => h)).setRow (.inr (Nat.le_refl _)) _⟩⟩
          rw [← HNVV.out]
          exact HBC.out.setRow NV
        case measure => simp [intOf]; omega
    · obtain rfl : k = K := by omega
      obtain ⟨TV, hTV⟩ : ∃ TV, TV = vb (C k) := ⟨_, rfl⟩
      have HT1 : Hid (∀ u ∈ TV, u.oneCell' = true) := Lib.hid (by rw [hTV]; exact vb_one _)
      have HTL : Hid (TV.length = 32) := Lib.hid (by rw [hTV]; exact hcl)
      have HTI : Hid ((Tryd.prog.info? 24).map (·.size) = some TV.length) := Lib.hid (by rw [HTL.out]; kernel_rfl)
      have HBB : Hid (Blk wr w.heap.size 24 TV) := Lib.hid (by rw [hTV]; exact HT.out.1)
      have HBZZ := Lib.hid HT.out.2.1
      have HKW := Lib.hid HT.out.2.2
      clear hcl
      go_wp2_with (first
        | ((with_reducible show wpList _ _ _ (⟨some 37, Op.load 24 _, _, _, _, _⟩ :: _) _ _); refine wpList_load_whole rfl 24 _ rfl _ rfl HBB.out Tryd.underlying24 rfl HTI.out ?_)
        | ((with_reducible show wpList _ _ _ (⟨none, Op.store 24 _ _, _, _, _, _⟩ :: _) _ _); refine wpList_store_whole rfl 24 _ _ rfl TV rfl rfl HBZZ.out (by rw [HTL.out]; simp) HTI.out HT1.out ?_))
      refine bodyPost_ret (results_blk rfl _ _ rfl (HBZZ.out.setRow TV) Tryd.underlying24 rfl HTI.out) rfl ⟨by rw [hTV], HKW.out.setRow (.inr (by omega)) _⟩
end Go.Proofs.YtknecjjdegngfaaDoor
