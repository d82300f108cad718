/-
  WALK: BookChecksGrowth, by what is answered.
-/
import Derived.Test.YtknecjjdegngfaaDoorChkK
set_option linter.unusedSimpArgs false
namespace Go.Proofs.YtknecjjdegngfaaDoor
open Go Go.RowKit Go.Sha Go.Aff Go.Book
set_option maxRecDepth 100000 in
set_option maxHeartbeats 8000000 in
theorem chkg_not (w : World) (m n : Int) (old root old' root' : List Int) (hold : IsDig old) (hroot : IsDig root) (hold' : IsDig old') (hroot' : IsDig root') (ofM ofN : Bool) (A : Option Addr) (N c : Nat) (pss : List (List Int)) (hl : pss.length = N) (hp : RdPartsO (fun _ => False) w A pss) (hN : N ≤ 2000) 
    (Ap : Option Addr) (Lp cp : Nat) (ps : List (List Int)) (hr : RdD w Ap Lp ps) (hLp : Lp ≤ 2000) (hw0 : weigh pss < 2147483648)
    (hset : ∀ W, Keeps (fun _ => False) w W → Calls Tryd.prog 25 #[.agg (claimV (.slice A N c) m n old root (.slice Ap Lp cp) ofM ofN).toArray] W fun e w' => ∃ B c', e = .returned (.tuple #[.agg (claimV (.slice A N c) m n old' root' (.slice Ap Lp cp) ofM ofN).toArray, .slice B N c', .bool true]) ∧ MineD W w' 23 B N c' (pss.map leafF))
    (T : TypeId) (v : Value) (no at' : Int) (hneq : ∀ W, (binOp .neq 38 (.iface T v) .nilIface).run Tryd.prog W = .ok (.bool true) W)
    (hck : ∀ W A' c', Keeps (fun _ => False) w W → RdD W A' Lp ps → Lp ≤ c' → Calls Tryd.prog 30 #[.int .i64 m, .agg (vb old').toArray, .int .i64 n, .agg (vb root').toArray, .slice A' Lp c'] W fun e w' => e = .returned (.iface T v) ∧ Keeps (fun _ => False) W w')
    (htl : ∀ W, Calls Tryd.prog 22 #[(.iface T v), .int .i64 no, .int .i64 at'] W fun e w' => e = .returned (.bool true) ∧ Keeps (fun _ => False) W w')
    (hre : ∀ W A' c', Keeps (fun _ => False) w W → RdD W A' Lp ps → Lp ≤ c' → Calls Tryd.prog 31 #[.int .i64 m, .agg (vb old').toArray, .int .i64 n, .agg (vb root').toArray, .slice A' Lp c'] W fun e w' => ∃ B nr c', e = .returned (.tuple #[.int .i64 no, .int .i64 at', .slice B nr c']) ∧ Keeps (fun _ => False) W w') :
    Calls Tryd.prog 7 #[.agg (claimV (.slice A N c) m n old root (.slice Ap Lp cp) ofM ofN).toArray] w fun e w' => e = .returned (.bool true) ∧ Keeps (fun _ => False) w w' := by
  obtain ⟨C0, hC0⟩ : ∃ C, C = claimV (.slice A N c) m n old root (.slice Ap Lp cp) ofM ofN := ⟨_, rfl⟩
  obtain ⟨C1, hC1⟩ : ∃ C, C = claimV (.slice A N c) m n old' root' (.slice Ap Lp cp) ofM ofN := ⟨_, rfl⟩
  have h00 : C0[0]? = some (.slice A N c) := by rw [hC0]; rfl
  have h05 : C0[67]? = some (.slice Ap Lp cp) := by rw [hC0]; exact claimV_at _ _ _ _ _ _ hold.1 hroot.1 0
  have h10 : C1[0]? = some (.slice A N c) := by rw [hC1]; rfl
  have h11 : C1[1]? = some (.int .i64 m) := by rw [hC1]; rfl
  have h12 : C1[2]? = some (.int .i64 n) := by rw [hC1]; rfl
  have h15 : C1[67]? = some (.slice Ap Lp cp) := by rw [hC1]; exact claimV_at _ _ _ _ _ _ hold'.1 hroot'.1 0
  have h17 : C1[69]? = some (.bool ofN) := by rw [hC1]; exact claimV_at _ _ _ _ _ _ hold'.1 hroot'.1 2
  have hl0 : C0.length = 70 := by rw [hC0]; exact claimV_length _ _ _ _ _ _ hold.1 hroot.1
  have hl1 : C1.length = 70 := by rw [hC1]; exact claimV_length _ _ _ _ _ _ hold'.1 hroot'.1
  have hone : ∀ u ∈ C1, u.oneCell' = true := by rw [hC1]; exact claimV_one _ _ _ _ _ _ _ _ rfl rfl
  obtain ⟨RV, hRV⟩ : ∃ V, V = vb root' := ⟨_, rfl⟩
  obtain ⟨OV, hOV⟩ : ∃ V, V = vb old' := ⟨_, rfl⟩
  have HRL : Hid (RV.length = 32) := Lib.hid (by rw [hRV, vb_length]; exact hroot'.1)
  have HRI : Hid ((Tryd.prog.info? 24).map (·.size) = some RV.length) := Lib.hid (by rw [HRL.out]; kernel_rfl)
  have HOL : Hid (OV.length = 32) := Lib.hid (by rw [hOV, vb_length]; exact hold'.1)
  have HOI : Hid ((Tryd.prog.info? 24).map (·.size) = some OV.length) := Lib.hid (by rw [HOL.out]; kernel_rfl)
  have HRA : Hid ((C1.drop 35).take 32 = RV) := Lib.hid (by rw [hC1, hRV]; exact claimV_root _ _ _ _ _ _ hold'.1 hroot'.1)
  have HOA : Hid ((C1.drop 3).take 32 = OV) := Lib.hid (by rw [hC1, hOV]; exact claimV_old _ _ _ _ _ _ hold'.1)
  have HCI0 : Hid ((Tryd.prog.info? 50).map (·.size) = some C0.length) := Lib.hid (claimInfo hl0)
  have HCI1 : Hid ((Tryd.prog.info? 50).map (·.size) = some C1.length) := Lib.hid (claimInfo hl1)
  have HC1 := Lib.hid hone
  have HL01 : Hid (C1.length = C0.length) := Lib.hid (hl1.trans hl0.symm)
  obtain ⟨W2, hW2⟩ : ∃ W2, W2 = w.alloc (.cells C0.toArray 50) := ⟨_, rfl⟩
  have hk2 : Keeps (fun _ => False) w W2 := by rw [hW2]; exact (Keeps.refl _ w).alloc _
  have HB1 : Hid (Blk W2 w.heap.size 50 C0) := Lib.hid (by rw [hW2]; exact Blk.new w _ _)
  have HK2 := Lib.hid hk2
  have hby := beyond_any W2 A N c pss hl (hp.keep hk2 (fun _ h => h)) (by omega)
  have hdec : decide (2147483648 ≤ weigh pss) = false := decide_eq_false (by omega)
  rw [hdec] at hby
  have HBY := Lib.hid hby
  have HSE : Hid (∀ W, Keeps (fun _ => False) w W → Calls Tryd.prog 25 #[.agg C0.toArray] W fun e w' => ∃ B c', e = .returned (.tuple #[.agg C1.toArray, .slice B N c', .bool true]) ∧ MineD W w' 23 B N c' (pss.map leafF)) := Lib.hid (by rw [hC0, hC1]; exact hset)
  have HCK : Hid (∀ W A' c', Keeps (fun _ => False) w W → RdD W A' Lp ps → Lp ≤ c' → Calls Tryd.prog 30 #[.int .i64 m, .agg OV.toArray, .int .i64 n, .agg RV.toArray, .slice A' Lp c'] W fun e w' => e = .returned (.iface T v) ∧ Keeps (fun _ => False) W w') := Lib.hid (by rw [hRV, hOV]; exact hck)
  have HRE : Hid (∀ W A' c', Keeps (fun _ => False) w W → RdD W A' Lp ps → Lp ≤ c' → Calls Tryd.prog 31 #[.int .i64 m, .agg OV.toArray, .int .i64 n, .agg RV.toArray, .slice A' Lp c'] W fun e w' => ∃ B nr c', e = .returned (.tuple #[.int .i64 no, .int .i64 at', .slice B nr c']) ∧ Keeps (fun _ => False) W w') := Lib.hid (by rw [hRV, hOV]; exact hre)
  have HTL := Lib.hid htl
  have HRD := Lib.hid hr
  have f0 : W2.cell? ⟨w.heap.size, 0, none⟩ = some (.slice A N c) := (HB1.out.cell 0).trans h00
  have f5 : W2.cell? ⟨w.heap.size, 67, none⟩ = some (.slice Ap Lp cp) := (HB1.out.cell 67).trans h05
  have HCF : Hid (∀ W, Blk W w.heap.size 50 C1 → W.cell? ⟨w.heap.size, 0, none⟩ = some (.slice A N c) ∧ W.cell? ⟨w.heap.size, 1, none⟩ = some (.int .i64 m) ∧ W.cell? ⟨w.heap.size, 2, none⟩ = some (.int .i64 n) ∧ W.cell? ⟨w.heap.size, 67, none⟩ = some (.slice Ap Lp cp) ∧ W.cell? ⟨w.heap.size, 69, none⟩ = some (.bool ofN)) := Lib.hid fun W hb =>
    ⟨(hb.cell 0).trans h10, (hb.cell 1).trans h11, (hb.cell 2).trans h12, (hb.cell 67).trans h15, (hb.cell 69).trans h17⟩
  have HCR : Hid (∀ W, Blk W w.heap.size 50 C1 → W.rangeAt w.heap.size 35 RV ∧ W.rangeAt w.heap.size 3 OV) := Lib.hid fun W hb => ⟨fun j v hv => by rw [hb.cell, ← HRA.out] at *; exact range_get hv, fun j v hv => by rw [hb.cell, ← HOA.out] at *; exact range_get hv⟩
  have hN1 : (N : Int) ≤ 2000 := by omega
  have hL1 : (Lp : Int) ≤ 2000 := by omega
  have g1 : ¬ (2000 : Int) < (N : Int) := by omega
  have g2 : ¬ (2000 : Int) < (Lp : Int) := by omega
  rw [← hC0]
  clear hC0 hC1 h00 h05 h10 h11 h12 h15 h17 hl0 hl1 hone hRV hOV hold hroot hold' hroot' hby hdec hset hck hre htl hr hp hl hk2 hw0 hN hLp
  go_enter Tryd.func7, Tryd.ntmps7
  go_upto_region 1 with fail
  rw [← hW2]
  clear hW2
  go_upto_region 6 with (first
    | (go_at_call 10; refine HBY.out.mono ?_; rintro e w9 ⟨rfl, hw9⟩; subst hw9)
    | ((with_reducible show wpList _ _ _ (⟨_, Op.load 50 _, _, _, _, _⟩ :: _) _ _); refine wpList_load_whole rfl 50 _ rfl _ rfl HB1.out Tryd.underlying50 rfl HCI0.out ?_)
    | (go_at_call 25; refine (HSE.out _ HK2.out).mono ?_; rintro e wS ⟨BS, cS, rfl, hmS⟩; have HMS := Lib.hid hmS; clear hmS)
    | ((with_reducible show wpList _ _ _ (⟨none, Op.store 50 _ _, _, _, _, _⟩ :: _) _ _); refine wpList_store_whole rfl 50 _ _ rfl C1 rfl rfl (HMS.out.2.2.2.1.blk HB1.out (fun h => h)) (by rw [HL01.out]) HCI1.out HC1.out ?_; refine gen_world (fun W => Blk W w.heap.size 50 C1 ∧ Keeps (fun i => i = w.heap.size) wS W) ⟨(HMS.out.2.2.2.1.blk HB1.out (fun h => h)).setRow C1, (Keeps.refl (fun i => i = w.heap.size) wS).setRow (.inl rfl) _⟩ ?_; rintro W3 ⟨hb3, hk3⟩; have HB3 := Lib.hid hb3; have HK3 := Lib.hid hk3; clear hb3 hk3))
  have HKS := Lib.hid (HK2.out.trans HMS.out.2.2.2.1 (fun _ _ h => h))
  have HKW3 := Lib.hid (HKS.out.trans HK3.out (fun i hi e => by have := HKS.out.size; omega))
  have HM3 := Lib.hid (MineD.wide HMS.out HK2.out HK3.out (fun g e => by omega) (fun g e => by have := HB1.out.lt; omega))
  clear f0 f5
  have w1 : IntKind.i64.wrap ((Lp : Int) + 1) = (Lp : Int) + 1 := IntWalk.i64_in _ (by omega)
  have HLP1 : Hid ((Lp : Int) + 1 = ((Lp + 1 : Nat) : Int)) := Lib.hid (by omega)
  refine wp_region_held_drew (S := Keeps (fun _ => False) W3) (by kernel_rfl) (Keeps.refl (fun _ => False) _).drew (fun hHeld => ?_)
  refine wpAnyH_take (i := 0) (oi := ⟨some 33, _, _, _, _, _⟩) (v := ?_) rfl (by kernel_rfl) (by kernel_rfl) (by kernel_rfl) (fun _ _ _ h => h) (Or.inl ⟨by rfl, ?_⟩) hHeld ?_
  rotate_left
  · intro w' hSw
    go_simp
    first | done | rfl
  try simp only [Act.put, List.setIfInBounds_toArray, List.set_cons_zero, List.set_cons_succ]
  refine wpAnyH_take (i := 1) (oi := ⟨some 34, _, _, _, _, _⟩) (v := ?_) rfl (by kernel_rfl) (by kernel_rfl) (by kernel_rfl) (fun _ _ _ h => h) (Or.inl ⟨by rfl, ?_⟩) hHeld ?_
  rotate_left
  · intro w' hSw
    obtain ⟨f0, f1, f2, f5, f7⟩ := HCF.out w' ((hSw).blk HB3.out (fun h => h))
    go_simp
    first | done | rfl
  try simp only [Act.put, List.setIfInBounds_toArray, List.set_cons_zero, List.set_cons_succ]
  refine wpAnyH_take (i := 2) (oi := ⟨some 35, _, _, _, _, _⟩) (v := ?_) rfl (by kernel_rfl) (by kernel_rfl) (by kernel_rfl) (fun _ _ _ h => h) (Or.inl ⟨by rfl, ?_⟩) hHeld ?_
  rotate_left
  · intro w' hSw
    go_simp
    first | done | rfl
  try simp only [Act.put, List.setIfInBounds_toArray, List.set_cons_zero, List.set_cons_succ]
  refine wpAnyH_take (i := 3) (oi := ⟨some 36, _, _, _, _, _⟩) (v := ?_) rfl (by kernel_rfl) (by kernel_rfl) (by kernel_rfl) (fun _ _ _ h => h) (Or.inl ⟨by rfl, ?_⟩) hHeld ?_
  rotate_left
  · intro w' hSw
    go_simp
    first | done | rfl
  try simp only [Act.put, List.setIfInBounds_toArray, List.set_cons_zero, List.set_cons_succ]
  refine wpAnyH_take (i := 5) (oi := ⟨some 38, _, _, _, _, _⟩) (v := ?_) rfl (by kernel_rfl) (by kernel_rfl) (by kernel_rfl) (fun _ _ _ h => h) (Or.inl ⟨by rfl, ?_⟩) hHeld ?_
  rotate_left
  · intro w' hSw
    go_simp
    first | done | rfl
  try simp only [Act.put, List.setIfInBounds_toArray, List.set_cons_zero, List.set_cons_succ]
  refine wpAnyH_take (i := 6) (oi := ⟨some 39, _, _, _, _, _⟩) (v := ?_) rfl (by kernel_rfl) (by kernel_rfl) (by kernel_rfl) (fun _ _ _ h => h) (Or.inl ⟨by rfl, ?_⟩) hHeld ?_
  rotate_left
  · intro w' hSw
    obtain ⟨f0, f1, f2, f5, f7⟩ := HCF.out w' ((hSw).blk HB3.out (fun h => h))
    go_simp
    first | done | rfl
  try simp only [Act.put, List.setIfInBounds_toArray, List.set_cons_zero, List.set_cons_succ]
  refine wpAnyH_ready (rs := [4]) (by kernel_rfl) (by simp) ?_
  refine AllReadyH.cons (o := ⟨some 37, _, _, _, _, _⟩) rfl (fun K hK => ?_) AllReadyH.nil
  refine step_make_dig W3 _ rfl (.const (.int .i64 0)) (.tmp 36) 36 rfl 24 _ Tryd.underlying36 infoD .i64 .i64 _ (Lp + 1) rfl rfl HLP1.out (by omega) hHeld ?_
  intro A4 w4 hm4
  refine hK.out _ _ hm4.2.2.2.1 (fun hHeld => ?_)
  clear hK K
  try simp only [Act.put, List.setIfInBounds_toArray, List.set_cons_zero, List.set_cons_succ]
  refine wpAnyH_ready (rs := [7]) (by kernel_rfl) (by simp) ?_
  refine AllReadyH.cons (o := ⟨some 40, _, _, _, _, _⟩) rfl (fun K hK => ?_) AllReadyH.nil
  refine step_append_dig W3 _ rfl (.tmp 37) (.tmp 39) 36 rfl 24 _ Tryd.underlying36 infoD rfl A4 0 (Lp + 1) [] rfl hm4 Ap Lp cp ps rfl ((HRD.out.keep HKW3.out (no_out _ _)).keep hHeld (no_out _ _)) (by omega) ?_
  intro AG cG W4 hmG _ _
  rw [List.nil_append, Nat.zero_add] at hmG
  refine hK.out _ _ hmG.2.2.2.1 (fun hHeld => ?_)
  clear hK K
  try simp only [Act.put, List.setIfInBounds_toArray, List.set_cons_zero, List.set_cons_succ]
  refine wpAnyH_take (i := 8) (oi := ⟨some 5, _, _, _, _, _⟩) (v := ?_) rfl (by kernel_rfl) (by kernel_rfl) (by kernel_rfl) (fun _ _ _ h => h) (Or.inl ⟨by rfl, ?_⟩) hHeld ?_
  rotate_left
  · intro w' hSw
    go_simp
    first | done | rfl
  try simp only [Act.put, List.setIfInBounds_toArray, List.set_cons_zero, List.set_cons_succ]
  refine wpAnyH_done (by kernel_rfl) ?_ _
  clear w1
  have HMG := Lib.hid hmG
  have HKW4 := Lib.hid (HKW3.out.trans hmG.2.2.2.1 (fun _ _ h => h))
  have HB4 := Lib.hid (hmG.2.2.2.1.blk HB3.out (fun h => h))
  clear hmG hm4 hHeld
  obtain ⟨f0, f1, f2, f5, f7⟩ := HCF.out W4 HB4.out
  have HL70 : Hid (C1.length = 70) := Lib.hid (by have := HCI1.out; rw [show (Tryd.prog.info? 50).map (·.size) = some 70 by kernel_rfl] at this; injection this with this; exact this.symm)
  go_upto_region 8 with (first
    | ((with_reducible show wpList _ _ _ (⟨_, Op.load 24 (.tmp 43), _, _, _, _⟩ :: _) _ _); refine wpList_load_at rfl 24 _ rfl 3 32 _ rfl HB4.out (by rw [HL70.out]; omega) Tryd.underlying24 rfl (by kernel_rfl) ?_; rw [HOA.out])
    | ((with_reducible show wpList _ _ _ (⟨_, Op.load 24 (.tmp 47), _, _, _, _⟩ :: _) _ _); refine wpList_load_at rfl 24 _ rfl 35 32 _ rfl HB4.out (by rw [HL70.out]; omega) Tryd.underlying24 rfl (by kernel_rfl) ?_; rw [HRA.out])
    | (go_at_call 30; refine (HCK.out _ AG cG HKW4.out (HMG.out.rd.keep (Keeps.refl (fun _ => False) _) (no_out _ _)) HMG.out.le).mono ?_; rintro e W5 ⟨rfl, hk5⟩; have HK5 := Lib.hid hk5; clear hk5))
  clear f0 f1 f2 f5 f7
  have HKW5 := Lib.hid (HKW4.out.trans HK5.out (fun _ _ h => h))
  have HB5 := Lib.hid (HK5.out.blk HB4.out (fun h => h))
  have HRR := Lib.hid fun W (hW : Keeps (fun _ => False) W5 W) => (HCR.out W (hW.blk HB5.out (fun h => h))).1
  have HOR := Lib.hid fun W (hW : Keeps (fun _ => False) W5 W) => (HCR.out W (hW.blk HB5.out (fun h => h))).2
  refine wp_region_held_drew (S := Keeps (fun _ => False) W5) (by kernel_rfl) (Keeps.refl (fun _ => False) _).drew (fun hHeld => ?_)
  refine wpAnyH_take (i := 0) (oi := ⟨some 52, _, _, _, _, _⟩) (v := ?_) rfl (by kernel_rfl) (by kernel_rfl) (by kernel_rfl) (fun _ _ _ h => h) (Or.inl ⟨by rfl, ?_⟩) hHeld ?_
  rotate_left
  · intro w' hSw
    go_simp
    first | done | rfl
  try simp only [Act.put, List.setIfInBounds_toArray, List.set_cons_zero, List.set_cons_succ]
  refine wpAnyH_take (i := 1) (oi := ⟨some 53, _, _, _, _, _⟩) (v := ?_) rfl (by kernel_rfl) (by kernel_rfl) (by kernel_rfl) (fun _ _ _ h => h) (Or.inl ⟨by rfl, ?_⟩) hHeld ?_
  rotate_left
  · intro w' hSw
    obtain ⟨f0, f1, f2, f5, f7⟩ := HCF.out w' ((hSw).blk HB5.out (fun h => h))
    go_simp
    first | done | rfl
  try simp only [Act.put, List.setIfInBounds_toArray, List.set_cons_zero, List.set_cons_succ]
  refine wpAnyH_take (i := 2) (oi := ⟨some 54, _, _, _, _, _⟩) (v := ?_) rfl (by kernel_rfl) (by kernel_rfl) (by kernel_rfl) (fun _ _ _ h => h) (Or.inl ⟨by rfl, ?_⟩) hHeld ?_
  rotate_left
  · intro w' hSw
    go_simp
    first | done | rfl
  try simp only [Act.put, List.setIfInBounds_toArray, List.set_cons_zero, List.set_cons_succ]
  refine wpAnyH_take (i := 3) (oi := ⟨some 55, _, _, _, _, _⟩) (v := _) rfl (by kernel_rfl) (by kernel_rfl) (by kernel_rfl) (fun _ _ _ h => h) (yieldsIf_load_mid (by rfl) _ _ rfl _ _ rfl OV _ (fun w' h => HOR.out _ h) Tryd.underlying24 rfl HOI.out) hHeld ?_
  try simp only [Act.put, List.setIfInBounds_toArray, List.set_cons_zero, List.set_cons_succ]
  refine wpAnyH_take (i := 4) (oi := ⟨some 56, _, _, _, _, _⟩) (v := ?_) rfl (by kernel_rfl) (by kernel_rfl) (by kernel_rfl) (fun _ _ _ h => h) (Or.inl ⟨by rfl, ?_⟩) hHeld ?_
  rotate_left
  · intro w' hSw
    go_simp
    first | done | rfl
  try simp only [Act.put, List.setIfInBounds_toArray, List.set_cons_zero, List.set_cons_succ]
  refine wpAnyH_take (i := 5) (oi := ⟨some 57, _, _, _, _, _⟩) (v := ?_) rfl (by kernel_rfl) (by kernel_rfl) (by kernel_rfl) (fun _ _ _ h => h) (Or.inl ⟨by rfl, ?_⟩) hHeld ?_
  rotate_left
  · intro w' hSw
    obtain ⟨f0, f1, f2, f5, f7⟩ := HCF.out w' ((hSw).blk HB5.out (fun h => h))
    go_simp
    first | done | rfl
  try simp only [Act.put, List.setIfInBounds_toArray, List.set_cons_zero, List.set_cons_succ]
  refine wpAnyH_take (i := 6) (oi := ⟨some 58, _, _, _, _, _⟩) (v := ?_) rfl (by kernel_rfl) (by kernel_rfl) (by kernel_rfl) (fun _ _ _ h => h) (Or.inl ⟨by rfl, ?_⟩) hHeld ?_
  rotate_left
  · intro w' hSw
    go_simp
    first | done | rfl
  try simp only [Act.put, List.setIfInBounds_toArray, List.set_cons_zero, List.set_cons_succ]
  refine wpAnyH_take (i := 7) (oi := ⟨some 59, _, _, _, _, _⟩) (v := _) rfl (by kernel_rfl) (by kernel_rfl) (by kernel_rfl) (fun _ _ _ h => h) (yieldsIf_load_mid (by rfl) _ _ rfl _ _ rfl RV _ (fun w' h => HRR.out _ h) Tryd.underlying24 rfl HRI.out) hHeld ?_
  try simp only [Act.put, List.setIfInBounds_toArray, List.set_cons_zero, List.set_cons_succ]
  refine wpAnyH_take (i := 8) (oi := ⟨some 60, _, _, _, _, _⟩) (v := ?_) rfl (by kernel_rfl) (by kernel_rfl) (by kernel_rfl) (fun _ _ _ h => h) (Or.inl ⟨by rfl, ?_⟩) hHeld ?_
  rotate_left
  · intro w' hSw
    go_simp
    first | done | rfl
  try simp only [Act.put, List.setIfInBounds_toArray, List.set_cons_zero, List.set_cons_succ]
  refine wpAnyH_take (i := 9) (oi := ⟨some 61, _, _, _, _, _⟩) (v := ?_) rfl (by kernel_rfl) (by kernel_rfl) (by kernel_rfl) (fun _ _ _ h => h) (Or.inl ⟨by rfl, ?_⟩) hHeld ?_
  rotate_left
  · intro w' hSw
    obtain ⟨f0, f1, f2, f5, f7⟩ := HCF.out w' ((hSw).blk HB5.out (fun h => h))
    go_simp
    first | done | rfl
  try simp only [Act.put, List.setIfInBounds_toArray, List.set_cons_zero, List.set_cons_succ]
  refine wpAnyH_ready (rs := [10]) (by kernel_rfl) (by simp) ?_
  refine AllReadyH.cons (o := ⟨some 62, _, _, _, _, _⟩) rfl (fun K hK => ?_) AllReadyH.nil
  go_simp
  refine (plain_any _ Ap Lp cp ps ((HRD.out.keep HKW5.out (no_out _ _)).keep hHeld (no_out _ _)) (by omega)).mono ?_
  rintro e v6 ⟨A6, c6, rfl, hM6⟩
  have hq6 := hHeld.trans hM6.2.2.2.1 (fun _ _ h => h)
  refine hK.out _ _ hq6 (fun hHeld => ?_)
  clear hK K
  try simp only [Act.put, List.setIfInBounds_toArray, List.set_cons_zero, List.set_cons_succ]
  refine wpAnyH_ready (rs := [11]) (by kernel_rfl) (by simp) ?_
  refine AllReadyH.cons (o := ⟨some 63, _, _, _, _, _⟩) rfl (fun K hK => ?_) AllReadyH.nil
  go_simp
  refine (HRE.out _ A6 c6 (HKW5.out.trans hHeld (fun _ _ h => h)) hM6.rd hM6.le).mono ?_
  rintro e v7 ⟨B7, n7, c7, rfl, hP7⟩
  have hq7 := hHeld.trans hP7 (fun _ _ h => h)
  refine hK.out _ _ hq7 (fun hHeld => ?_)
  clear hK K
  try simp only [Act.put, List.setIfInBounds_toArray, List.set_cons_zero, List.set_cons_succ]
  refine wpAnyH_take (i := 12) (oi := ⟨some 51, _, _, _, _, _⟩) (v := ?_) rfl (by kernel_rfl) (by kernel_rfl) (by kernel_rfl) (fun _ _ _ h => h) (Or.inl ⟨by rfl, ?_⟩) hHeld ?_
  rotate_left
  · intro w' hSw
    go_simp
    first | done | rfl
  try simp only [Act.put, List.setIfInBounds_toArray, List.set_cons_zero, List.set_cons_succ]
  refine wpAnyH_take (i := 13) (oi := ⟨some 64, _, _, _, _, _⟩) (v := ?_) rfl (by kernel_rfl) (by kernel_rfl) (by kernel_rfl) (fun _ _ _ h => h) (Or.inl ⟨by rfl, ?_⟩) hHeld ?_
  rotate_left
  · intro w' hSw
    go_simp
    first | done | rfl
  try simp only [Act.put, List.setIfInBounds_toArray, List.set_cons_zero, List.set_cons_succ]
  refine wpAnyH_take (i := 14) (oi := ⟨some 65, _, _, _, _, _⟩) (v := ?_) rfl (by kernel_rfl) (by kernel_rfl) (by kernel_rfl) (fun _ _ _ h => h) (Or.inl ⟨by rfl, ?_⟩) hHeld ?_
  rotate_left
  · intro w' hSw
    go_simp
    first | done | rfl
  try simp only [Act.put, List.setIfInBounds_toArray, List.set_cons_zero, List.set_cons_succ]
  refine wpAnyH_take (i := 15) (oi := ⟨some 66, _, _, _, _, _⟩) (v := ?_) rfl (by kernel_rfl) (by kernel_rfl) (by kernel_rfl) (fun _ _ _ h => h) (Or.inl ⟨by rfl, ?_⟩) hHeld ?_
  rotate_left
  · intro w' hSw
    go_simp
    first | done | rfl
  try simp only [Act.put, List.setIfInBounds_toArray, List.set_cons_zero, List.set_cons_succ]
  refine wpAnyH_take (i := 16) (oi := ⟨some 7, _, _, _, _, _⟩) (v := ?_) rfl (by kernel_rfl) (by kernel_rfl) (by kernel_rfl) (fun _ _ _ h => h) (Or.inl ⟨by rfl, ?_⟩) hHeld ?_
  rotate_left
  · intro w' hSw
    go_simp
    first | done | rfl
  try simp only [Act.put, List.setIfInBounds_toArray, List.set_cons_zero, List.set_cons_succ]
  refine wpAnyH_take (i := 17) (oi := ⟨some 8, _, _, _, _, _⟩) (v := ?_) rfl (by kernel_rfl) (by kernel_rfl) (by kernel_rfl) (fun _ _ _ h => h) (Or.inl ⟨by rfl, ?_⟩) hHeld ?_
  rotate_left
  · intro w' hSw
    go_simp
    first | done | rfl
  try simp only [Act.put, List.setIfInBounds_toArray, List.set_cons_zero, List.set_cons_succ]
  refine wpAnyH_take (i := 18) (oi := ⟨some 9, _, _, _, _, _⟩) (v := ?_) rfl (by kernel_rfl) (by kernel_rfl) (by kernel_rfl) (fun _ _ _ h => h) (Or.inl ⟨by rfl, ?_⟩) hHeld ?_
  rotate_left
  · intro w' hSw
    go_simp
    first | done | rfl
  try simp only [Act.put, List.setIfInBounds_toArray, List.set_cons_zero, List.set_cons_succ]
  refine wpAnyH_done (by kernel_rfl) ?_ _
  have HKW7 := Lib.hid (HKW5.out.trans hq7 (fun _ _ h => h))
  have HB7 := Lib.hid (hq7.blk HB5.out (fun h => h))
  have HMG7 := Lib.hid (HMG.out.keep (HK5.out.trans hq7 (fun _ _ h => h)))
  have HMS7 := Lib.hid ((HM3.out.keep HMG.out.2.2.2.1).keep (HK5.out.trans hq7 (fun _ _ h => h)))
  clear hP7
  clear hq6 hq7 hM6 hHeld
  have cvn := hneq
  clear hneq
  go_wp2_with (first
    | (go_at_call 22; refine (HTL.out _).mono ?_; rintro e w8 ⟨rfl, hk8⟩; have HK8 := Lib.hid hk8; obtain ⟨f0, f1, f2, f5, f7⟩ := HCF.out w8 (hk8.blk HB7.out (fun h => h)); clear hk8)
    | (go_at_call 21; refine (plain_any _ Ap Lp cp ps ((HRD.out.keep HKW7.out (no_out _ _)).keep HK8.out (no_out _ _)) (by omega)).mono ?_; rintro e w9 ⟨A9, c9, rfl, hM9⟩; have HM9 := Lib.hid hM9; have HK9 := Lib.hid (HK8.out.trans hM9.2.2.2.1 (fun _ _ h => h)); clear hM9)
    | (go_at_call 20; refine (same_any _ AG A9 Lp cG c9 ps (HMG7.out.rd.keep HK9.out (no_out _ _)) HM9.out.rd (by omega)).mono ?_; rintro e wA ⟨rfl, hkA⟩; have HKA := Lib.hid (HK9.out.trans hkA (fun _ _ h => h)); clear hkA f0 f1 f2 f5 f7; obtain ⟨f0, f1, f2, f5, f7⟩ := HCF.out wA (HKA.out.blk HB7.out (fun h => h))))
  go_ret
  exact ⟨rfl, HKW7.out.trans HKA.out (fun _ _ h => h)⟩
set_option maxRecDepth 100000 in
set_option maxHeartbeats 8000000 in
theorem chkg_okf (w : World) (m n : Int) (old root old' root' : List Int) (hold : IsDig old) (hroot : IsDig root) (hold' : IsDig old') (hroot' : IsDig root') (ofM ofN : Bool) (A : Option Addr) (N c : Nat) (pss : List (List Int)) (hl : pss.length = N) (hp : RdPartsO (fun _ => False) w A pss) (hN : N ≤ 2000) 
    (Ap : Option Addr) (Lp cp : Nat) (ps : List (List Int)) (hr : RdD w Ap Lp ps) (hLp : Lp ≤ 2000) (hw0 : weigh pss < 2147483648)
    (hset : ∀ W, Keeps (fun _ => False) w W → Calls Tryd.prog 25 #[.agg (claimV (.slice A N c) m n old root (.slice Ap Lp cp) ofM ofN).toArray] W fun e w' => ∃ B c', e = .returned (.tuple #[.agg (claimV (.slice A N c) m n old' root' (.slice Ap Lp cp) ofM ofN).toArray, .slice B N c', .bool true]) ∧ MineD W w' 23 B N c' (pss.map leafF))
    
    (hck : ∀ W A' c', Keeps (fun _ => False) w W → RdD W A' Lp ps → Lp ≤ c' → Calls Tryd.prog 30 #[.int .i64 m, .agg (vb old').toArray, .int .i64 n, .agg (vb root').toArray, .slice A' Lp c'] W fun e w' => e = .returned (.nilIface) ∧ Keeps (fun _ => False) W w')
    (htl : ∀ W, Calls Tryd.prog 22 #[.nilIface, .int .i64 0, .int .i64 0] W fun e w' => e = .returned (.bool true) ∧ Keeps (fun _ => False) W w')
    (hre : ∀ W A' c', Keeps (fun _ => False) w W → RdD W A' Lp ps → Lp ≤ c' → Calls Tryd.prog 31 #[.int .i64 m, .agg (vb old').toArray, .int .i64 n, .agg (vb root').toArray, .slice A' Lp c'] W fun e w' => ∃ B nr c', e = .returned (.tuple #[.int .i64 0, .int .i64 0, .slice B nr c']) ∧ Keeps (fun _ => False) W w')
    (hof : ofN = false) :
    Calls Tryd.prog 7 #[.agg (claimV (.slice A N c) m n old root (.slice Ap Lp cp) ofM ofN).toArray] w fun e w' => e = .returned (.bool true) ∧ Keeps (fun _ => False) w w' := by
  subst hof
  obtain ⟨C0, hC0⟩ : ∃ C, C = claimV (.slice A N c) m n old root (.slice Ap Lp cp) ofM false := ⟨_, rfl⟩
  obtain ⟨C1, hC1⟩ : ∃ C, C = claimV (.slice A N c) m n old' root' (.slice Ap Lp cp) ofM false := ⟨_, rfl⟩
  have h00 : C0[0]? = some (.slice A N c) := by rw [hC0]; rfl
  have h05 : C0[67]? = some (.slice Ap Lp cp) := by rw [hC0]; exact claimV_at _ _ _ _ _ _ hold.1 hroot.1 0
  have h10 : C1[0]? = some (.slice A N c) := by rw [hC1]; rfl
  have h11 : C1[1]? = some (.int .i64 m) := by rw [hC1]; rfl
  have h12 : C1[2]? = some (.int .i64 n) := by rw [hC1]; rfl
  have h15 : C1[67]? = some (.slice Ap Lp cp) := by rw [hC1]; exact claimV_at _ _ _ _ _ _ hold'.1 hroot'.1 0
  have h17 : C1[69]? = some (.bool false) := by rw [hC1]; exact claimV_at _ _ _ _ _ _ hold'.1 hroot'.1 2
  have hl0 : C0.length = 70 := by rw [hC0]; exact claimV_length _ _ _ _ _ _ hold.1 hroot.1
  have hl1 : C1.length = 70 := by rw [hC1]; exact claimV_length _ _ _ _ _ _ hold'.1 hroot'.1
  have hone : ∀ u ∈ C1, u.oneCell' = true := by rw [hC1]; exact claimV_one _ _ _ _ _ _ _ _ rfl rfl
  obtain ⟨RV, hRV⟩ : ∃ V, V = vb root' := ⟨_, rfl⟩
  obtain ⟨OV, hOV⟩ : ∃ V, V = vb old' := ⟨_, rfl⟩
  have HRL : Hid (RV.length = 32) := Lib.hid (by rw [hRV, vb_length]; exact hroot'.1)
  have HRI : Hid ((Tryd.prog.info? 24).map (·.size) = some RV.length) := Lib.hid (by rw [HRL.out]; kernel_rfl)
  have HOL : Hid (OV.length = 32) := Lib.hid (by rw [hOV, vb_length]; exact hold'.1)
  have HOI : Hid ((Tryd.prog.info? 24).map (·.size) = some OV.length) := Lib.hid (by rw [HOL.out]; kernel_rfl)
  have HRA : Hid ((C1.drop 35).take 32 = RV) := Lib.hid (by rw [hC1, hRV]; exact claimV_root _ _ _ _ _ _ hold'.1 hroot'.1)
  have HOA : Hid ((C1.drop 3).take 32 = OV) := Lib.hid (by rw [hC1, hOV]; exact claimV_old _ _ _ _ _ _ hold'.1)
  have HCI0 : Hid ((Tryd.prog.info? 50).map (·.size) = some C0.length) := Lib.hid (claimInfo hl0)
  have HCI1 : Hid ((Tryd.prog.info? 50).map (·.size) = some C1.length) := Lib.hid (claimInfo hl1)
  have HC1 := Lib.hid hone
  have HL01 : Hid (C1.length = C0.length) := Lib.hid (hl1.trans hl0.symm)
  obtain ⟨W2, hW2⟩ : ∃ W2, W2 = w.alloc (.cells C0.toArray 50) := ⟨_, rfl⟩
  have hk2 : Keeps (fun _ => False) w W2 := by rw [hW2]; exact (Keeps.refl _ w).alloc _
  have HB1 : Hid (Blk W2 w.heap.size 50 C0) := Lib.hid (by rw [hW2]; exact Blk.new w _ _)
  have HK2 := Lib.hid hk2
  have hby := beyond_any W2 A N c pss hl (hp.keep hk2 (fun _ h => h)) (by omega)
  have hdec : decide (2147483648 ≤ weigh pss) = false := decide_eq_false (by omega)
  rw [hdec] at hby
  have HBY := Lib.hid hby
  have HSE : Hid (∀ W, Keeps (fun _ => False) w W → Calls Tryd.prog 25 #[.agg C0.toArray] W fun e w' => ∃ B c', e = .returned (.tuple #[.agg C1.toArray, .slice B N c', .bool true]) ∧ MineD W w' 23 B N c' (pss.map leafF)) := Lib.hid (by rw [hC0, hC1]; exact hset)
  have HCK : Hid (∀ W A' c', Keeps (fun _ => False) w W → RdD W A' Lp ps → Lp ≤ c' → Calls Tryd.prog 30 #[.int .i64 m, .agg OV.toArray, .int .i64 n, .agg RV.toArray, .slice A' Lp c'] W fun e w' => e = .returned (.nilIface) ∧ Keeps (fun _ => False) W w') := Lib.hid (by rw [hRV, hOV]; exact hck)
  have HRE : Hid (∀ W A' c', Keeps (fun _ => False) w W → RdD W A' Lp ps → Lp ≤ c' → Calls Tryd.prog 31 #[.int .i64 m, .agg OV.toArray, .int .i64 n, .agg RV.toArray, .slice A' Lp c'] W fun e w' => ∃ B nr c', e = .returned (.tuple #[.int .i64 0, .int .i64 0, .slice B nr c']) ∧ Keeps (fun _ => False) W w') := Lib.hid (by rw [hRV, hOV]; exact hre)
  have HTL := Lib.hid htl
  have HRD := Lib.hid hr
  have f0 : W2.cell? ⟨w.heap.size, 0, none⟩ = some (.slice A N c) := (HB1.out.cell 0).trans h00
  have f5 : W2.cell? ⟨w.heap.size, 67, none⟩ = some (.slice Ap Lp cp) := (HB1.out.cell 67).trans h05
  have HCF : Hid (∀ W, Blk W w.heap.size 50 C1 → W.cell? ⟨w.heap.size, 0, none⟩ = some (.slice A N c) ∧ W.cell? ⟨w.heap.size, 1, none⟩ = some (.int .i64 m) ∧ W.cell? ⟨w.heap.size, 2, none⟩ = some (.int .i64 n) ∧ W.cell? ⟨w.heap.size, 67, none⟩ = some (.slice Ap Lp cp) ∧ W.cell? ⟨w.heap.size, 69, none⟩ = some (.bool false)) := Lib.hid fun W hb =>
    ⟨(hb.cell 0).trans h10, (hb.cell 1).trans h11, (hb.cell 2).trans h12, (hb.cell 67).trans h15, (hb.cell 69).trans h17⟩
  have HCR : Hid (∀ W, Blk W w.heap.size 50 C1 → W.rangeAt w.heap.size 35 RV ∧ W.rangeAt w.heap.size 3 OV) := Lib.hid fun W hb => ⟨fun j v hv => by rw [hb.cell, ← HRA.out] at *; exact range_get hv, fun j v hv => by rw [hb.cell, ← HOA.out] at *; exact range_get hv⟩
  have hN1 : (N : Int) ≤ 2000 := by omega
  have hL1 : (Lp : Int) ≤ 2000 := by omega
  have g1 : ¬ (2000 : Int) < (N : Int) := by omega
  have g2 : ¬ (2000 : Int) < (Lp : Int) := by omega
  rw [← hC0]
  clear hC0 hC1 h00 h05 h10 h11 h12 h15 h17 hl0 hl1 hone hRV hOV hold hroot hold' hroot' hby hdec hset hck hre htl hr hp hl hk2 hw0 hN hLp
  go_enter Tryd.func7, Tryd.ntmps7
  go_upto_region 1 with fail
  rw [← hW2]
  clear hW2
  go_upto_region 6 with (first
    | (go_at_call 10; refine HBY.out.mono ?_; rintro e w9 ⟨rfl, hw9⟩; subst hw9)
    | ((with_reducible show wpList _ _ _ (⟨_, Op.load 50 _, _, _, _, _⟩ :: _) _ _); refine wpList_load_whole rfl 50 _ rfl _ rfl HB1.out Tryd.underlying50 rfl HCI0.out ?_)
    | (go_at_call 25; refine (HSE.out _ HK2.out).mono ?_; rintro e wS ⟨BS, cS, rfl, hmS⟩; have HMS := Lib.hid hmS; clear hmS)
    | ((with_reducible show wpList _ _ _ (⟨none, Op.store 50 _ _, _, _, _, _⟩ :: _) _ _); refine wpList_store_whole rfl 50 _ _ rfl C1 rfl rfl (HMS.out.2.2.2.1.blk HB1.out (fun h => h)) (by rw [HL01.out]) HCI1.out HC1.out ?_; refine gen_world (fun W => Blk W w.heap.size 50 C1 ∧ Keeps (fun i => i = w.heap.size) wS W) ⟨(HMS.out.2.2.2.1.blk HB1.out (fun h => h)).setRow C1, (Keeps.refl (fun i => i = w.heap.size) wS).setRow (.inl rfl) _⟩ ?_; rintro W3 ⟨hb3, hk3⟩; have HB3 := Lib.hid hb3; have HK3 := Lib.hid hk3; clear hb3 hk3))
  have HKS := Lib.hid (HK2.out.trans HMS.out.2.2.2.1 (fun _ _ h => h))
  have HKW3 := Lib.hid (HKS.out.trans HK3.out (fun i hi e => by have := HKS.out.size; omega))
  have HM3 := Lib.hid (MineD.wide HMS.out HK2.out HK3.out (fun g e => by omega) (fun g e => by have := HB1.out.lt; omega))
  clear f0 f5
  have w1 : IntKind.i64.wrap ((Lp : Int) + 1) = (Lp : Int) + 1 := IntWalk.i64_in _ (by omega)
  have HLP1 : Hid ((Lp : Int) + 1 = ((Lp + 1 : Nat) : Int)) := Lib.hid (by omega)
  refine wp_region_held_drew (S := Keeps (fun _ => False) W3) (by kernel_rfl) (Keeps.refl (fun _ => False) _).drew (fun hHeld => ?_)
  refine wpAnyH_take (i := 0) (oi := ⟨some 33, _, _, _, _, _⟩) (v := ?_) rfl (by kernel_rfl) (by kernel_rfl) (by kernel_rfl) (fun _ _ _ h => h) (Or.inl ⟨by rfl, ?_⟩) hHeld ?_
  rotate_left
  · intro w' hSw
    go_simp
    first | done | rfl
  try simp only [Act.put, List.setIfInBounds_toArray, List.set_cons_zero, List.set_cons_succ]
  refine wpAnyH_take (i := 1) (oi := ⟨some 34, _, _, _, _, _⟩) (v := ?_) rfl (by kernel_rfl) (by kernel_rfl) (by kernel_rfl) (fun _ _ _ h => h) (Or.inl ⟨by rfl, ?_⟩) hHeld ?_
  rotate_left
  · intro w' hSw
    obtain ⟨f0, f1, f2, f5, f7⟩ := HCF.out w' ((hSw).blk HB3.out (fun h => h))
    go_simp
    first | done | rfl
  try simp only [Act.put, List.setIfInBounds_toArray, List.set_cons_zero, List.set_cons_succ]
  refine wpAnyH_take (i := 2) (oi := ⟨some 35, _, _, _, _, _⟩) (v := ?_) rfl (by kernel_rfl) (by kernel_rfl) (by kernel_rfl) (fun _ _ _ h => h) (Or.inl ⟨by rfl, ?_⟩) hHeld ?_
  rotate_left
  · intro w' hSw
    go_simp
    first | done | rfl
  try simp only [Act.put, List.setIfInBounds_toArray, List.set_cons_zero, List.set_cons_succ]
  refine wpAnyH_take (i := 3) (oi := ⟨some 36, _, _, _, _, _⟩) (v := ?_) rfl (by kernel_rfl) (by kernel_rfl) (by kernel_rfl) (fun _ _ _ h => h) (Or.inl ⟨by rfl, ?_⟩) hHeld ?_
  rotate_left
  · intro w' hSw
    go_simp
    first | done | rfl
  try simp only [Act.put, List.setIfInBounds_toArray, List.set_cons_zero, List.set_cons_succ]
  refine wpAnyH_take (i := 5) (oi := ⟨some 38, _, _, _, _, _⟩) (v := ?_) rfl (by kernel_rfl) (by kernel_rfl) (by kernel_rfl) (fun _ _ _ h => h) (Or.inl ⟨by rfl, ?_⟩) hHeld ?_
  rotate_left
  · intro w' hSw
    go_simp
    first | done | rfl
  try simp only [Act.put, List.setIfInBounds_toArray, List.set_cons_zero, List.set_cons_succ]
  refine wpAnyH_take (i := 6) (oi := ⟨some 39, _, _, _, _, _⟩) (v := ?_) rfl (by kernel_rfl) (by kernel_rfl) (by kernel_rfl) (fun _ _ _ h => h) (Or.inl ⟨by rfl, ?_⟩) hHeld ?_
  rotate_left
  · intro w' hSw
    obtain ⟨f0, f1, f2, f5, f7⟩ := HCF.out w' ((hSw).blk HB3.out (fun h => h))
    go_simp
    first | done | rfl
  try simp only [Act.put, List.setIfInBounds_toArray, List.set_cons_zero, List.set_cons_succ]
  refine wpAnyH_ready (rs := [4]) (by kernel_rfl) (by simp) ?_
  refine AllReadyH.cons (o := ⟨some 37, _, _, _, _, _⟩) rfl (fun K hK => ?_) AllReadyH.nil
  refine step_make_dig W3 _ rfl (.const (.int .i64 0)) (.tmp 36) 36 rfl 24 _ Tryd.underlying36 infoD .i64 .i64 _ (Lp + 1) rfl rfl HLP1.out (by omega) hHeld ?_
  intro A4 w4 hm4
  refine hK.out _ _ hm4.2.2.2.1 (fun hHeld => ?_)
  clear hK K
  try simp only [Act.put, List.setIfInBounds_toArray, List.set_cons_zero, List.set_cons_succ]
  refine wpAnyH_ready (rs := [7]) (by kernel_rfl) (by simp) ?_
  refine AllReadyH.cons (o := ⟨some 40, _, _, _, _, _⟩) rfl (fun K hK => ?_) AllReadyH.nil
  refine step_append_dig W3 _ rfl (.tmp 37) (.tmp 39) 36 rfl 24 _ Tryd.underlying36 infoD rfl A4 0 (Lp + 1) [] rfl hm4 Ap Lp cp ps rfl ((HRD.out.keep HKW3.out (no_out _ _)).keep hHeld (no_out _ _)) (by omega) ?_
  intro AG cG W4 hmG _ _
  rw [List.nil_append, Nat.zero_add] at hmG
  refine hK.out _ _ hmG.2.2.2.1 (fun hHeld => ?_)
  clear hK K
  try simp only [Act.put, List.setIfInBounds_toArray, List.set_cons_zero, List.set_cons_succ]
  refine wpAnyH_take (i := 8) (oi := ⟨some 5, _, _, _, _, _⟩) (v := ?_) rfl (by kernel_rfl) (by kernel_rfl) (by kernel_rfl) (fun _ _ _ h => h) (Or.inl ⟨by rfl, ?_⟩) hHeld ?_
  rotate_left
  · intro w' hSw
    go_simp
    first | done | rfl
  try simp only [Act.put, List.setIfInBounds_toArray, List.set_cons_zero, List.set_cons_succ]
  refine wpAnyH_done (by kernel_rfl) ?_ _
  clear w1
  have HMG := Lib.hid hmG
  have HKW4 := Lib.hid (HKW3.out.trans hmG.2.2.2.1 (fun _ _ h => h))
  have HB4 := Lib.hid (hmG.2.2.2.1.blk HB3.out (fun h => h))
  clear hmG hm4 hHeld
  obtain ⟨f0, f1, f2, f5, f7⟩ := HCF.out W4 HB4.out
  have HL70 : Hid (C1.length = 70) := Lib.hid (by have := HCI1.out; rw [show (Tryd.prog.info? 50).map (·.size) = some 70 by kernel_rfl] at this; injection this with this; exact this.symm)
  go_upto_region 8 with (first
    | ((with_reducible show wpList _ _ _ (⟨_, Op.load 24 (.tmp 43), _, _, _, _⟩ :: _) _ _); refine wpList_load_at rfl 24 _ rfl 3 32 _ rfl HB4.out (by rw [HL70.out]; omega) Tryd.underlying24 rfl (by kernel_rfl) ?_; rw [HOA.out])
    | ((with_reducible show wpList _ _ _ (⟨_, Op.load 24 (.tmp 47), _, _, _, _⟩ :: _) _ _); refine wpList_load_at rfl 24 _ rfl 35 32 _ rfl HB4.out (by rw [HL70.out]; omega) Tryd.underlying24 rfl (by kernel_rfl) ?_; rw [HRA.out])
    | (go_at_call 30; refine (HCK.out _ AG cG HKW4.out (HMG.out.rd.keep (Keeps.refl (fun _ => False) _) (no_out _ _)) HMG.out.le).mono ?_; rintro e W5 ⟨rfl, hk5⟩; have HK5 := Lib.hid hk5; clear hk5))
  clear f0 f1 f2 f5 f7
  have HKW5 := Lib.hid (HKW4.out.trans HK5.out (fun _ _ h => h))
  have HB5 := Lib.hid (HK5.out.blk HB4.out (fun h => h))
  have HRR := Lib.hid fun W (hW : Keeps (fun _ => False) W5 W) => (HCR.out W (hW.blk HB5.out (fun h => h))).1
  have HOR := Lib.hid fun W (hW : Keeps (fun _ => False) W5 W) => (HCR.out W (hW.blk HB5.out (fun h => h))).2
  refine wp_region_held_drew (S := Keeps (fun _ => False) W5) (by kernel_rfl) (Keeps.refl (fun _ => False) _).drew (fun hHeld => ?_)
  refine wpAnyH_take (i := 0) (oi := ⟨some 52, _, _, _, _, _⟩) (v := ?_) rfl (by kernel_rfl) (by kernel_rfl) (by kernel_rfl) (fun _ _ _ h => h) (Or.inl ⟨by rfl, ?_⟩) hHeld ?_
  rotate_left
  · intro w' hSw
    go_simp
    first | done | rfl
  try simp only [Act.put, List.setIfInBounds_toArray, List.set_cons_zero, List.set_cons_succ]
  refine wpAnyH_take (i := 1) (oi := ⟨some 53, _, _, _, _, _⟩) (v := ?_) rfl (by kernel_rfl) (by kernel_rfl) (by kernel_rfl) (fun _ _ _ h => h) (Or.inl ⟨by rfl, ?_⟩) hHeld ?_
  rotate_left
  · intro w' hSw
    obtain ⟨f0, f1, f2, f5, f7⟩ := HCF.out w' ((hSw).blk HB5.out (fun h => h))
    go_simp
    first | done | rfl
  try simp only [Act.put, List.setIfInBounds_toArray, List.set_cons_zero, List.set_cons_succ]
  refine wpAnyH_take (i := 2) (oi := ⟨some 54, _, _, _, _, _⟩) (v := ?_) rfl (by kernel_rfl) (by kernel_rfl) (by kernel_rfl) (fun _ _ _ h => h) (Or.inl ⟨by rfl, ?_⟩) hHeld ?_
  rotate_left
  · intro w' hSw
    go_simp
    first | done | rfl
  try simp only [Act.put, List.setIfInBounds_toArray, List.set_cons_zero, List.set_cons_succ]
  refine wpAnyH_take (i := 3) (oi := ⟨some 55, _, _, _, _, _⟩) (v := _) rfl (by kernel_rfl) (by kernel_rfl) (by kernel_rfl) (fun _ _ _ h => h) (yieldsIf_load_mid (by rfl) _ _ rfl _ _ rfl OV _ (fun w' h => HOR.out _ h) Tryd.underlying24 rfl HOI.out) hHeld ?_
  try simp only [Act.put, List.setIfInBounds_toArray, List.set_cons_zero, List.set_cons_succ]
  refine wpAnyH_take (i := 4) (oi := ⟨some 56, _, _, _, _, _⟩) (v := ?_) rfl (by kernel_rfl) (by kernel_rfl) (by kernel_rfl) (fun _ _ _ h => h) (Or.inl ⟨by rfl, ?_⟩) hHeld ?_
  rotate_left
  · intro w' hSw
    go_simp
    first | done | rfl
  try simp only [Act.put, List.setIfInBounds_toArray, List.set_cons_zero, List.set_cons_succ]
  refine wpAnyH_take (i := 5) (oi := ⟨some 57, _, _, _, _, _⟩) (v := ?_) rfl (by kernel_rfl) (by kernel_rfl) (by kernel_rfl) (fun _ _ _ h => h) (Or.inl ⟨by rfl, ?_⟩) hHeld ?_
  rotate_left
  · intro w' hSw
    obtain ⟨f0, f1, f2, f5, f7⟩ := HCF.out w' ((hSw).blk HB5.out (fun h => h))
    go_simp
    first | done | rfl
  try simp only [Act.put, List.setIfInBounds_toArray, List.set_cons_zero, List.set_cons_succ]
  refine wpAnyH_take (i := 6) (oi := ⟨some 58, _, _, _, _, _⟩) (v := ?_) rfl (by kernel_rfl) (by kernel_rfl) (by kernel_rfl) (fun _ _ _ h => h) (Or.inl ⟨by rfl, ?_⟩) hHeld ?_
  rotate_left
  · intro w' hSw
    go_simp
    first | done | rfl
  try simp only [Act.put, List.setIfInBounds_toArray, List.set_cons_zero, List.set_cons_succ]
  refine wpAnyH_take (i := 7) (oi := ⟨some 59, _, _, _, _, _⟩) (v := _) rfl (by kernel_rfl) (by kernel_rfl) (by kernel_rfl) (fun _ _ _ h => h) (yieldsIf_load_mid (by rfl) _ _ rfl _ _ rfl RV _ (fun w' h => HRR.out _ h) Tryd.underlying24 rfl HRI.out) hHeld ?_
  try simp only [Act.put, List.setIfInBounds_toArray, List.set_cons_zero, List.set_cons_succ]
  refine wpAnyH_take (i := 8) (oi := ⟨some 60, _, _, _, _, _⟩) (v := ?_) rfl (by kernel_rfl) (by kernel_rfl) (by kernel_rfl) (fun _ _ _ h => h) (Or.inl ⟨by rfl, ?_⟩) hHeld ?_
  rotate_left
  · intro w' hSw
    go_simp
    first | done | rfl
  try simp only [Act.put, List.setIfInBounds_toArray, List.set_cons_zero, List.set_cons_succ]
  refine wpAnyH_take (i := 9) (oi := ⟨some 61, _, _, _, _, _⟩) (v := ?_) rfl (by kernel_rfl) (by kernel_rfl) (by kernel_rfl) (fun _ _ _ h => h) (Or.inl ⟨by rfl, ?_⟩) hHeld ?_
  rotate_left
  · intro w' hSw
    obtain ⟨f0, f1, f2, f5, f7⟩ := HCF.out w' ((hSw).blk HB5.out (fun h => h))
    go_simp
    first | done | rfl
  try simp only [Act.put, List.setIfInBounds_toArray, List.set_cons_zero, List.set_cons_succ]
  refine wpAnyH_ready (rs := [10]) (by kernel_rfl) (by simp) ?_
  refine AllReadyH.cons (o := ⟨some 62, _, _, _, _, _⟩) rfl (fun K hK => ?_) AllReadyH.nil
  go_simp
  refine (plain_any _ Ap Lp cp ps ((HRD.out.keep HKW5.out (no_out _ _)).keep hHeld (no_out _ _)) (by omega)).mono ?_
  rintro e v6 ⟨A6, c6, rfl, hM6⟩
  have hq6 := hHeld.trans hM6.2.2.2.1 (fun _ _ h => h)
  refine hK.out _ _ hq6 (fun hHeld => ?_)
  clear hK K
  try simp only [Act.put, List.setIfInBounds_toArray, List.set_cons_zero, List.set_cons_succ]
  refine wpAnyH_ready (rs := [11]) (by kernel_rfl) (by simp) ?_
  refine AllReadyH.cons (o := ⟨some 63, _, _, _, _, _⟩) rfl (fun K hK => ?_) AllReadyH.nil
  go_simp
  refine (HRE.out _ A6 c6 (HKW5.out.trans hHeld (fun _ _ h => h)) hM6.rd hM6.le).mono ?_
  rintro e v7 ⟨B7, n7, c7, rfl, hP7⟩
  have hq7 := hHeld.trans hP7 (fun _ _ h => h)
  refine hK.out _ _ hq7 (fun hHeld => ?_)
  clear hK K
  try simp only [Act.put, List.setIfInBounds_toArray, List.set_cons_zero, List.set_cons_succ]
  refine wpAnyH_take (i := 12) (oi := ⟨some 51, _, _, _, _, _⟩) (v := ?_) rfl (by kernel_rfl) (by kernel_rfl) (by kernel_rfl) (fun _ _ _ h => h) (Or.inl ⟨by rfl, ?_⟩) hHeld ?_
  rotate_left
  · intro w' hSw
    go_simp
    first | done | rfl
  try simp only [Act.put, List.setIfInBounds_toArray, List.set_cons_zero, List.set_cons_succ]
  refine wpAnyH_take (i := 13) (oi := ⟨some 64, _, _, _, _, _⟩) (v := ?_) rfl (by kernel_rfl) (by kernel_rfl) (by kernel_rfl) (fun _ _ _ h => h) (Or.inl ⟨by rfl, ?_⟩) hHeld ?_
  rotate_left
  · intro w' hSw
    go_simp
    first | done | rfl
  try simp only [Act.put, List.setIfInBounds_toArray, List.set_cons_zero, List.set_cons_succ]
  refine wpAnyH_take (i := 14) (oi := ⟨some 65, _, _, _, _, _⟩) (v := ?_) rfl (by kernel_rfl) (by kernel_rfl) (by kernel_rfl) (fun _ _ _ h => h) (Or.inl ⟨by rfl, ?_⟩) hHeld ?_
  rotate_left
  · intro w' hSw
    go_simp
    first | done | rfl
  try simp only [Act.put, List.setIfInBounds_toArray, List.set_cons_zero, List.set_cons_succ]
  refine wpAnyH_take (i := 15) (oi := ⟨some 66, _, _, _, _, _⟩) (v := ?_) rfl (by kernel_rfl) (by kernel_rfl) (by kernel_rfl) (fun _ _ _ h => h) (Or.inl ⟨by rfl, ?_⟩) hHeld ?_
  rotate_left
  · intro w' hSw
    go_simp
    first | done | rfl
  try simp only [Act.put, List.setIfInBounds_toArray, List.set_cons_zero, List.set_cons_succ]
  refine wpAnyH_take (i := 16) (oi := ⟨some 7, _, _, _, _, _⟩) (v := ?_) rfl (by kernel_rfl) (by kernel_rfl) (by kernel_rfl) (fun _ _ _ h => h) (Or.inl ⟨by rfl, ?_⟩) hHeld ?_
  rotate_left
  · intro w' hSw
    go_simp
    first | done | rfl
  try simp only [Act.put, List.setIfInBounds_toArray, List.set_cons_zero, List.set_cons_succ]
  refine wpAnyH_take (i := 17) (oi := ⟨some 8, _, _, _, _, _⟩) (v := ?_) rfl (by kernel_rfl) (by kernel_rfl) (by kernel_rfl) (fun _ _ _ h => h) (Or.inl ⟨by rfl, ?_⟩) hHeld ?_
  rotate_left
  · intro w' hSw
    go_simp
    first | done | rfl
  try simp only [Act.put, List.setIfInBounds_toArray, List.set_cons_zero, List.set_cons_succ]
  refine wpAnyH_take (i := 18) (oi := ⟨some 9, _, _, _, _, _⟩) (v := ?_) rfl (by kernel_rfl) (by kernel_rfl) (by kernel_rfl) (fun _ _ _ h => h) (Or.inl ⟨by rfl, ?_⟩) hHeld ?_
  rotate_left
  · intro w' hSw
    go_simp
    first | done | rfl
  try simp only [Act.put, List.setIfInBounds_toArray, List.set_cons_zero, List.set_cons_succ]
  refine wpAnyH_done (by kernel_rfl) ?_ _
  have HKW7 := Lib.hid (HKW5.out.trans hq7 (fun _ _ h => h))
  have HB7 := Lib.hid (hq7.blk HB5.out (fun h => h))
  have HMG7 := Lib.hid (HMG.out.keep (HK5.out.trans hq7 (fun _ _ h => h)))
  have HMS7 := Lib.hid ((HM3.out.keep HMG.out.2.2.2.1).keep (HK5.out.trans hq7 (fun _ _ h => h)))
  clear hP7
  clear hq6 hq7 hM6 hHeld
  go_wp2_with (first
    | (go_at_call 22; refine (HTL.out _).mono ?_; rintro e w8 ⟨rfl, hk8⟩; have HK8 := Lib.hid hk8; obtain ⟨f0, f1, f2, f5, f7⟩ := HCF.out w8 (hk8.blk HB7.out (fun h => h)); clear hk8)
    | (go_at_call 21; refine (plain_any _ Ap Lp cp ps ((HRD.out.keep HKW7.out (no_out _ _)).keep HK8.out (no_out _ _)) (by omega)).mono ?_; rintro e w9 ⟨A9, c9, rfl, hM9⟩; have HM9 := Lib.hid hM9; have HK9 := Lib.hid (HK8.out.trans hM9.2.2.2.1 (fun _ _ h => h)); clear hM9)
    | (go_at_call 20; refine (same_any _ AG A9 Lp cG c9 ps (HMG7.out.rd.keep HK9.out (no_out _ _)) HM9.out.rd (by omega)).mono ?_; rintro e wA ⟨rfl, hkA⟩; have HKA := Lib.hid (HK9.out.trans hkA (fun _ _ h => h)); clear hkA f0 f1 f2 f5 f7; obtain ⟨f0, f1, f2, f5, f7⟩ := HCF.out wA (HKA.out.blk HB7.out (fun h => h))))
  go_ret
  exact ⟨rfl, HKW7.out.trans HKA.out (fun _ _ h => h)⟩
set_option maxRecDepth 100000 in
set_option maxHeartbeats 8000000 in
theorem chkg_eq (w : World) (m n : Int) (old root old' root' : List Int) (hold : IsDig old) (hroot : IsDig root) (hold' : IsDig old') (hroot' : IsDig root') (ofM ofN : Bool) (A : Option Addr) (N c : Nat) (pss : List (List Int)) (hl : pss.length = N) (hp : RdPartsO (fun _ => False) w A pss) (hN : N ≤ 2000) 
    (Ap : Option Addr) (Lp cp : Nat) (ps : List (List Int)) (hr : RdD w Ap Lp ps) (hLp : Lp ≤ 2000) (hw0 : weigh pss < 2147483648)
    (hset : ∀ W, Keeps (fun _ => False) w W → Calls Tryd.prog 25 #[.agg (claimV (.slice A N c) m n old root (.slice Ap Lp cp) ofM ofN).toArray] W fun e w' => ∃ B c', e = .returned (.tuple #[.agg (claimV (.slice A N c) m n old' root' (.slice Ap Lp cp) ofM ofN).toArray, .slice B N c', .bool true]) ∧ MineD W w' 23 B N c' (pss.map leafF))
    
    (hck : ∀ W A' c', Keeps (fun _ => False) w W → RdD W A' Lp ps → Lp ≤ c' → Calls Tryd.prog 30 #[.int .i64 m, .agg (vb old').toArray, .int .i64 n, .agg (vb root').toArray, .slice A' Lp c'] W fun e w' => e = .returned (.nilIface) ∧ Keeps (fun _ => False) W w')
    (htl : ∀ W, Calls Tryd.prog 22 #[.nilIface, .int .i64 0, .int .i64 0] W fun e w' => e = .returned (.bool true) ∧ Keeps (fun _ => False) W w')
    (hre : ∀ W A' c', Keeps (fun _ => False) w W → RdD W A' Lp ps → Lp ≤ c' → Calls Tryd.prog 31 #[.int .i64 m, .agg (vb old').toArray, .int .i64 n, .agg (vb root').toArray, .slice A' Lp c'] W fun e w' => ∃ B nr c', e = .returned (.tuple #[.int .i64 0, .int .i64 0, .slice B nr c']) ∧ Keeps (fun _ => False) W w')
    (hof : ofN = true) (hm0 : 0 ≤ m) (hnN : n ≤ (N : Int)) (hmn : m ≤ n) (d : List Int) (hd : d = brootF ((pss.map leafF).take m.toNat)) (hq : old' = d) :
    Calls Tryd.prog 7 #[.agg (claimV (.slice A N c) m n old root (.slice Ap Lp cp) ofM ofN).toArray] w fun e w' => e = .returned (.bool true) ∧ Keeps (fun _ => False) w w' := by
  subst hof
  obtain ⟨C0, hC0⟩ : ∃ C, C = claimV (.slice A N c) m n old root (.slice Ap Lp cp) ofM true := ⟨_, rfl⟩
  obtain ⟨C1, hC1⟩ : ∃ C, C = claimV (.slice A N c) m n old' root' (.slice Ap Lp cp) ofM true := ⟨_, rfl⟩
  have h00 : C0[0]? = some (.slice A N c) := by rw [hC0]; rfl
  have h05 : C0[67]? = some (.slice Ap Lp cp) := by rw [hC0]; exact claimV_at _ _ _ _ _ _ hold.1 hroot.1 0
  have h10 : C1[0]? = some (.slice A N c) := by rw [hC1]; rfl
  have h11 : C1[1]? = some (.int .i64 m) := by rw [hC1]; rfl
  have h12 : C1[2]? = some (.int .i64 n) := by rw [hC1]; rfl
  have h15 : C1[67]? = some (.slice Ap Lp cp) := by rw [hC1]; exact claimV_at _ _ _ _ _ _ hold'.1 hroot'.1 0
  have h17 : C1[69]? = some (.bool true) := by rw [hC1]; exact claimV_at _ _ _ _ _ _ hold'.1 hroot'.1 2
  have hl0 : C0.length = 70 := by rw [hC0]; exact claimV_length _ _ _ _ _ _ hold.1 hroot.1
  have hl1 : C1.length = 70 := by rw [hC1]; exact claimV_length _ _ _ _ _ _ hold'.1 hroot'.1
  have hone : ∀ u ∈ C1, u.oneCell' = true := by rw [hC1]; exact claimV_one _ _ _ _ _ _ _ _ rfl rfl
  obtain ⟨RV, hRV⟩ : ∃ V, V = vb root' := ⟨_, rfl⟩
  obtain ⟨OV, hOV⟩ : ∃ V, V = vb old' := ⟨_, rfl⟩
  have HRL : Hid (RV.length = 32) := Lib.hid (by rw [hRV, vb_length]; exact hroot'.1)
  have HRI : Hid ((Tryd.prog.info? 24).map (·.size) = some RV.length) := Lib.hid (by rw [HRL.out]; kernel_rfl)
  have HOL : Hid (OV.length = 32) := Lib.hid (by rw [hOV, vb_length]; exact hold'.1)
  have HOI : Hid ((Tryd.prog.info? 24).map (·.size) = some OV.length) := Lib.hid (by rw [HOL.out]; kernel_rfl)
  have HRA : Hid ((C1.drop 35).take 32 = RV) := Lib.hid (by rw [hC1, hRV]; exact claimV_root _ _ _ _ _ _ hold'.1 hroot'.1)
  have HOA : Hid ((C1.drop 3).take 32 = OV) := Lib.hid (by rw [hC1, hOV]; exact claimV_old _ _ _ _ _ _ hold'.1)
  have HCI0 : Hid ((Tryd.prog.info? 50).map (·.size) = some C0.length) := Lib.hid (claimInfo hl0)
  have HCI1 : Hid ((Tryd.prog.info? 50).map (·.size) = some C1.length) := Lib.hid (claimInfo hl1)
  have HC1 := Lib.hid hone
  have HL01 : Hid (C1.length = C0.length) := Lib.hid (hl1.trans hl0.symm)
  obtain ⟨W2, hW2⟩ : ∃ W2, W2 = w.alloc (.cells C0.toArray 50) := ⟨_, rfl⟩
  have hk2 : Keeps (fun _ => False) w W2 := by rw [hW2]; exact (Keeps.refl _ w).alloc _
  have HB1 : Hid (Blk W2 w.heap.size 50 C0) := Lib.hid (by rw [hW2]; exact Blk.new w _ _)
  have HK2 := Lib.hid hk2
  have hby := beyond_any W2 A N c pss hl (hp.keep hk2 (fun _ h => h)) (by omega)
  have hdec : decide (2147483648 ≤ weigh pss) = false := decide_eq_false (by omega)
  rw [hdec] at hby
  have HBY := Lib.hid hby
  have HSE : Hid (∀ W, Keeps (fun _ => False) w W → Calls Tryd.prog 25 #[.agg C0.toArray] W fun e w' => ∃ B c', e = .returned (.tuple #[.agg C1.toArray, .slice B N c', .bool true]) ∧ MineD W w' 23 B N c' (pss.map leafF)) := Lib.hid (by rw [hC0, hC1]; exact hset)
  have HCK : Hid (∀ W A' c', Keeps (fun _ => False) w W → RdD W A' Lp ps → Lp ≤ c' → Calls Tryd.prog 30 #[.int .i64 m, .agg OV.toArray, .int .i64 n, .agg RV.toArray, .slice A' Lp c'] W fun e w' => e = .returned (.nilIface) ∧ Keeps (fun _ => False) W w') := Lib.hid (by rw [hRV, hOV]; exact hck)
  have HRE : Hid (∀ W A' c', Keeps (fun _ => False) w W → RdD W A' Lp ps → Lp ≤ c' → Calls Tryd.prog 31 #[.int .i64 m, .agg OV.toArray, .int .i64 n, .agg RV.toArray, .slice A' Lp c'] W fun e w' => ∃ B nr c', e = .returned (.tuple #[.int .i64 0, .int .i64 0, .slice B nr c']) ∧ Keeps (fun _ => False) W w') := Lib.hid (by rw [hRV, hOV]; exact hre)
  have HTL := Lib.hid htl
  have HRD := Lib.hid hr
  have f0 : W2.cell? ⟨w.heap.size, 0, none⟩ = some (.slice A N c) := (HB1.out.cell 0).trans h00
  have f5 : W2.cell? ⟨w.heap.size, 67, none⟩ = some (.slice Ap Lp cp) := (HB1.out.cell 67).trans h05
  have HCF : Hid (∀ W, Blk W w.heap.size 50 C1 → W.cell? ⟨w.heap.size, 0, none⟩ = some (.slice A N c) ∧ W.cell? ⟨w.heap.size, 1, none⟩ = some (.int .i64 m) ∧ W.cell? ⟨w.heap.size, 2, none⟩ = some (.int .i64 n) ∧ W.cell? ⟨w.heap.size, 67, none⟩ = some (.slice Ap Lp cp) ∧ W.cell? ⟨w.heap.size, 69, none⟩ = some (.bool true)) := Lib.hid fun W hb =>
    ⟨(hb.cell 0).trans h10, (hb.cell 1).trans h11, (hb.cell 2).trans h12, (hb.cell 67).trans h15, (hb.cell 69).trans h17⟩
  have HCR : Hid (∀ W, Blk W w.heap.size 50 C1 → W.rangeAt w.heap.size 35 RV ∧ W.rangeAt w.heap.size 3 OV) := Lib.hid fun W hb => ⟨fun j v hv => by rw [hb.cell, ← HRA.out] at *; exact range_get hv, fun j v hv => by rw [hb.cell, ← HOA.out] at *; exact range_get hv⟩
  have hN1 : (N : Int) ≤ 2000 := by omega
  have hL1 : (Lp : Int) ≤ 2000 := by omega
  have g1 : ¬ (2000 : Int) < (N : Int) := by omega
  have g2 : ¬ (2000 : Int) < (Lp : Int) := by omega
  obtain ⟨m', rfl⟩ : ∃ k : Nat, m = k := ⟨m.toNat, by omega⟩
  obtain ⟨n', rfl⟩ : ∃ k : Nat, n = k := ⟨n.toNat, by omega⟩
  simp only [Int.toNat_natCast] at hd
  have hdd : IsDig d := by rw [hd]; exact dig_root ((digs_leaves pss).take _)
  obtain ⟨DV, hDV⟩ : ∃ V, V = vb d := ⟨_, rfl⟩
  have HEQ : Hid (∀ W, (Op.equalIn 10000 24 (.agg OV.toArray) (.agg DV.toArray)).run Tryd.prog W = .ok true W) := Lib.hid fun W => by
    have := digest_eql W old' d hold'.1 hdd.1
    rw [decide_eq_true hq] at this
    rw [hOV, hDV]
    exact eql_in this
  have HRT : Hid (∀ (W v X : World) B c', MineD W v 23 B N c' (pss.map leafF) → Keeps (fun _ => False) v X → Calls Tryd.prog 32 #[.slice (cutD B c' 0) m' c'] X fun e w' => e = .returned (.agg DV.toArray) ∧ Keeps (fun _ => False) X w') := Lib.hid fun W v X B c' hM hX => by
    rw [hDV, hd]
    exact rroot_any m' _ X _ _ (RdD.cutN (hM.rd.keep hX (no_out _ _)) _ (by omega)) (by have := hM.le; omega) (by omega)
  rw [← hC0]
  clear hC0 hC1 h00 h05 h10 h11 h12 h15 h17 hl0 hl1 hone hRV hOV hold hroot hold' hroot' hby hdec hset hck hre htl hr hp hl hk2 hw0 hN hLp hd hdd hDV hq
  go_enter Tryd.func7, Tryd.ntmps7
  go_upto_region 1 with fail
  rw [← hW2]
  clear hW2
  go_upto_region 6 with (first
    | (go_at_call 10; refine HBY.out.mono ?_; rintro e w9 ⟨rfl, hw9⟩; subst hw9)
    | ((with_reducible show wpList _ _ _ (⟨_, Op.load 50 _, _, _, _, _⟩ :: _) _ _); refine wpList_load_whole rfl 50 _ rfl _ rfl HB1.out Tryd.underlying50 rfl HCI0.out ?_)
    | (go_at_call 25; refine (HSE.out _ HK2.out).mono ?_; rintro e wS ⟨BS, cS, rfl, hmS⟩; have HMS := Lib.hid hmS; clear hmS)
    | ((with_reducible show wpList _ _ _ (⟨none, Op.store 50 _ _, _, _, _, _⟩ :: _) _ _); refine wpList_store_whole rfl 50 _ _ rfl C1 rfl rfl (HMS.out.2.2.2.1.blk HB1.out (fun h => h)) (by rw [HL01.out]) HCI1.out HC1.out ?_; refine gen_world (fun W => Blk W w.heap.size 50 C1 ∧ Keeps (fun i => i = w.heap.size) wS W) ⟨(HMS.out.2.2.2.1.blk HB1.out (fun h => h)).setRow C1, (Keeps.refl (fun i => i = w.heap.size) wS).setRow (.inl rfl) _⟩ ?_; rintro W3 ⟨hb3, hk3⟩; have HB3 := Lib.hid hb3; have HK3 := Lib.hid hk3; clear hb3 hk3))
  have HKS := Lib.hid (HK2.out.trans HMS.out.2.2.2.1 (fun _ _ h => h))
  have HKW3 := Lib.hid (HKS.out.trans HK3.out (fun i hi e => by have := HKS.out.size; omega))
  have HM3 := Lib.hid (MineD.wide HMS.out HK2.out HK3.out (fun g e => by omega) (fun g e => by have := HB1.out.lt; omega))
  clear f0 f5
  have w1 : IntKind.i64.wrap ((Lp : Int) + 1) = (Lp : Int) + 1 := IntWalk.i64_in _ (by omega)
  have HLP1 : Hid ((Lp : Int) + 1 = ((Lp + 1 : Nat) : Int)) := Lib.hid (by omega)
  refine wp_region_held_drew (S := Keeps (fun _ => False) W3) (by kernel_rfl) (Keeps.refl (fun _ => False) _).drew (fun hHeld => ?_)
  refine wpAnyH_take (i := 0) (oi := ⟨some 33, _, _, _, _, _⟩) (v := ?_) rfl (by kernel_rfl) (by kernel_rfl) (by kernel_rfl) (fun _ _ _ h => h) (Or.inl ⟨by rfl, ?_⟩) hHeld ?_
  rotate_left
  · intro w' hSw
    go_simp
    first | done | rfl
  try simp only [Act.put, List.setIfInBounds_toArray, List.set_cons_zero, List.set_cons_succ]
  refine wpAnyH_take (i := 1) (oi := ⟨some 34, _, _, _, _, _⟩) (v := ?_) rfl (by kernel_rfl) (by kernel_rfl) (by kernel_rfl) (fun _ _ _ h => h) (Or.inl ⟨by rfl, ?_⟩) hHeld ?_
  rotate_left
  · intro w' hSw
    obtain ⟨f0, f1, f2, f5, f7⟩ := HCF.out w' ((hSw).blk HB3.out (fun h => h))
    go_simp
    first | done | rfl
  try simp only [Act.put, List.setIfInBounds_toArray, List.set_cons_zero, List.set_cons_succ]
  refine wpAnyH_take (i := 2) (oi := ⟨some 35, _, _, _, _, _⟩) (v := ?_) rfl (by kernel_rfl) (by kernel_rfl) (by kernel_rfl) (fun _ _ _ h => h) (Or.inl ⟨by rfl, ?_⟩) hHeld ?_
  rotate_left
  · intro w' hSw
    go_simp
    first | done | rfl
  try simp only [Act.put, List.setIfInBounds_toArray, List.set_cons_zero, List.set_cons_succ]
  refine wpAnyH_take (i := 3) (oi := ⟨some 36, _, _, _, _, _⟩) (v := ?_) rfl (by kernel_rfl) (by kernel_rfl) (by kernel_rfl) (fun _ _ _ h => h) (Or.inl ⟨by rfl, ?_⟩) hHeld ?_
  rotate_left
  · intro w' hSw
    go_simp
    first | done | rfl
  try simp only [Act.put, List.setIfInBounds_toArray, List.set_cons_zero, List.set_cons_succ]
  refine wpAnyH_take (i := 5) (oi := ⟨some 38, _, _, _, _, _⟩) (v := ?_) rfl (by kernel_rfl) (by kernel_rfl) (by kernel_rfl) (fun _ _ _ h => h) (Or.inl ⟨by rfl, ?_⟩) hHeld ?_
  rotate_left
  · intro w' hSw
    go_simp
    first | done | rfl
  try simp only [Act.put, List.setIfInBounds_toArray, List.set_cons_zero, List.set_cons_succ]
  refine wpAnyH_take (i := 6) (oi := ⟨some 39, _, _, _, _, _⟩) (v := ?_) rfl (by kernel_rfl) (by kernel_rfl) (by kernel_rfl) (fun _ _ _ h => h) (Or.inl ⟨by rfl, ?_⟩) hHeld ?_
  rotate_left
  · intro w' hSw
    obtain ⟨f0, f1, f2, f5, f7⟩ := HCF.out w' ((hSw).blk HB3.out (fun h => h))
    go_simp
    first | done | rfl
  try simp only [Act.put, List.setIfInBounds_toArray, List.set_cons_zero, List.set_cons_succ]
  refine wpAnyH_ready (rs := [4]) (by kernel_rfl) (by simp) ?_
  refine AllReadyH.cons (o := ⟨some 37, _, _, _, _, _⟩) rfl (fun K hK => ?_) AllReadyH.nil
  refine step_make_dig W3 _ rfl (.const (.int .i64 0)) (.tmp 36) 36 rfl 24 _ Tryd.underlying36 infoD .i64 .i64 _ (Lp + 1) rfl rfl HLP1.out (by omega) hHeld ?_
  intro A4 w4 hm4
  refine hK.out _ _ hm4.2.2.2.1 (fun hHeld => ?_)
  clear hK K
  try simp only [Act.put, List.setIfInBounds_toArray, List.set_cons_zero, List.set_cons_succ]
  refine wpAnyH_ready (rs := [7]) (by kernel_rfl) (by simp) ?_
  refine AllReadyH.cons (o := ⟨some 40, _, _, _, _, _⟩) rfl (fun K hK => ?_) AllReadyH.nil
  refine step_append_dig W3 _ rfl (.tmp 37) (.tmp 39) 36 rfl 24 _ Tryd.underlying36 infoD rfl A4 0 (Lp + 1) [] rfl hm4 Ap Lp cp ps rfl ((HRD.out.keep HKW3.out (no_out _ _)).keep hHeld (no_out _ _)) (by omega) ?_
  intro AG cG W4 hmG _ _
  rw [List.nil_append, Nat.zero_add] at hmG
  refine hK.out _ _ hmG.2.2.2.1 (fun hHeld => ?_)
  clear hK K
  try simp only [Act.put, List.setIfInBounds_toArray, List.set_cons_zero, List.set_cons_succ]
  refine wpAnyH_take (i := 8) (oi := ⟨some 5, _, _, _, _, _⟩) (v := ?_) rfl (by kernel_rfl) (by kernel_rfl) (by kernel_rfl) (fun _ _ _ h => h) (Or.inl ⟨by rfl, ?_⟩) hHeld ?_
  rotate_left
  · intro w' hSw
    go_simp
    first | done | rfl
  try simp only [Act.put, List.setIfInBounds_toArray, List.set_cons_zero, List.set_cons_succ]
  refine wpAnyH_done (by kernel_rfl) ?_ _
  clear w1
  have HMG := Lib.hid hmG
  have HKW4 := Lib.hid (HKW3.out.trans hmG.2.2.2.1 (fun _ _ h => h))
  have HB4 := Lib.hid (hmG.2.2.2.1.blk HB3.out (fun h => h))
  clear hmG hm4 hHeld
  obtain ⟨f0, f1, f2, f5, f7⟩ := HCF.out W4 HB4.out
  have HL70 : Hid (C1.length = 70) := Lib.hid (by have := HCI1.out; rw [show (Tryd.prog.info? 50).map (·.size) = some 70 by kernel_rfl] at this; injection this with this; exact this.symm)
  go_upto_region 8 with (first
    | ((with_reducible show wpList _ _ _ (⟨_, Op.load 24 (.tmp 43), _, _, _, _⟩ :: _) _ _); refine wpList_load_at rfl 24 _ rfl 3 32 _ rfl HB4.out (by rw [HL70.out]; omega) Tryd.underlying24 rfl (by kernel_rfl) ?_; rw [HOA.out])
    | ((with_reducible show wpList _ _ _ (⟨_, Op.load 24 (.tmp 47), _, _, _, _⟩ :: _) _ _); refine wpList_load_at rfl 24 _ rfl 35 32 _ rfl HB4.out (by rw [HL70.out]; omega) Tryd.underlying24 rfl (by kernel_rfl) ?_; rw [HRA.out])
    | (go_at_call 30; refine (HCK.out _ AG cG HKW4.out (HMG.out.rd.keep (Keeps.refl (fun _ => False) _) (no_out _ _)) HMG.out.le).mono ?_; rintro e W5 ⟨rfl, hk5⟩; have HK5 := Lib.hid hk5; clear hk5))
  clear f0 f1 f2 f5 f7
  have HKW5 := Lib.hid (HKW4.out.trans HK5.out (fun _ _ h => h))
  have HB5 := Lib.hid (HK5.out.blk HB4.out (fun h => h))
  have HRR := Lib.hid fun W (hW : Keeps (fun _ => False) W5 W) => (HCR.out W (hW.blk HB5.out (fun h => h))).1
  have HOR := Lib.hid fun W (hW : Keeps (fun _ => False) W5 W) => (HCR.out W (hW.blk HB5.out (fun h => h))).2
  refine wp_region_held_drew (S := Keeps (fun _ => False) W5) (by kernel_rfl) (Keeps.refl (fun _ => False) _).drew (fun hHeld => ?_)
  refine wpAnyH_take (i := 0) (oi := ⟨some 52, _, _, _, _, _⟩) (v := ?_) rfl (by kernel_rfl) (by kernel_rfl) (by kernel_rfl) (fun _ _ _ h => h) (Or.inl ⟨by rfl, ?_⟩) hHeld ?_
  rotate_left
  · intro w' hSw
    go_simp
    first | done | rfl
  try simp only [Act.put, List.setIfInBounds_toArray, List.set_cons_zero, List.set_cons_succ]
  refine wpAnyH_take (i := 1) (oi := ⟨some 53, _, _, _, _, _⟩) (v := ?_) rfl (by kernel_rfl) (by kernel_rfl) (by kernel_rfl) (fun _ _ _ h => h) (Or.inl ⟨by rfl, ?_⟩) hHeld ?_
  rotate_left
  · intro w' hSw
    obtain ⟨f0, f1, f2, f5, f7⟩ := HCF.out w' ((hSw).blk HB5.out (fun h => h))
    go_simp
    first | done | rfl
  try simp only [Act.put, List.setIfInBounds_toArray, List.set_cons_zero, List.set_cons_succ]
  refine wpAnyH_take (i := 2) (oi := ⟨some 54, _, _, _, _, _⟩) (v := ?_) rfl (by kernel_rfl) (by kernel_rfl) (by kernel_rfl) (fun _ _ _ h => h) (Or.inl ⟨by rfl, ?_⟩) hHeld ?_
  rotate_left
  · intro w' hSw
    go_simp
    first | done | rfl
  try simp only [Act.put, List.setIfInBounds_toArray, List.set_cons_zero, List.set_cons_succ]
  refine wpAnyH_take (i := 3) (oi := ⟨some 55, _, _, _, _, _⟩) (v := _) rfl (by kernel_rfl) (by kernel_rfl) (by kernel_rfl) (fun _ _ _ h => h) (yieldsIf_load_mid (by rfl) _ _ rfl _ _ rfl OV _ (fun w' h => HOR.out _ h) Tryd.underlying24 rfl HOI.out) hHeld ?_
  try simp only [Act.put, List.setIfInBounds_toArray, List.set_cons_zero, List.set_cons_succ]
  refine wpAnyH_take (i := 4) (oi := ⟨some 56, _, _, _, _, _⟩) (v := ?_) rfl (by kernel_rfl) (by kernel_rfl) (by kernel_rfl) (fun _ _ _ h => h) (Or.inl ⟨by rfl, ?_⟩) hHeld ?_
  rotate_left
  · intro w' hSw
    go_simp
    first | done | rfl
  try simp only [Act.put, List.setIfInBounds_toArray, List.set_cons_zero, List.set_cons_succ]
  refine wpAnyH_take (i := 5) (oi := ⟨some 57, _, _, _, _, _⟩) (v := ?_) rfl (by kernel_rfl) (by kernel_rfl) (by kernel_rfl) (fun _ _ _ h => h) (Or.inl ⟨by rfl, ?_⟩) hHeld ?_
  rotate_left
  · intro w' hSw
    obtain ⟨f0, f1, f2, f5, f7⟩ := HCF.out w' ((hSw).blk HB5.out (fun h => h))
    go_simp
    first | done | rfl
  try simp only [Act.put, List.setIfInBounds_toArray, List.set_cons_zero, List.set_cons_succ]
  refine wpAnyH_take (i := 6) (oi := ⟨some 58, _, _, _, _, _⟩) (v := ?_) rfl (by kernel_rfl) (by kernel_rfl) (by kernel_rfl) (fun _ _ _ h => h) (Or.inl ⟨by rfl, ?_⟩) hHeld ?_
  rotate_left
  · intro w' hSw
    go_simp
    first | done | rfl
  try simp only [Act.put, List.setIfInBounds_toArray, List.set_cons_zero, List.set_cons_succ]
  refine wpAnyH_take (i := 7) (oi := ⟨some 59, _, _, _, _, _⟩) (v := _) rfl (by kernel_rfl) (by kernel_rfl) (by kernel_rfl) (fun _ _ _ h => h) (yieldsIf_load_mid (by rfl) _ _ rfl _ _ rfl RV _ (fun w' h => HRR.out _ h) Tryd.underlying24 rfl HRI.out) hHeld ?_
  try simp only [Act.put, List.setIfInBounds_toArray, List.set_cons_zero, List.set_cons_succ]
  refine wpAnyH_take (i := 8) (oi := ⟨some 60, _, _, _, _, _⟩) (v := ?_) rfl (by kernel_rfl) (by kernel_rfl) (by kernel_rfl) (fun _ _ _ h => h) (Or.inl ⟨by rfl, ?_⟩) hHeld ?_
  rotate_left
  · intro w' hSw
    go_simp
    first | done | rfl
  try simp only [Act.put, List.setIfInBounds_toArray, List.set_cons_zero, List.set_cons_succ]
  refine wpAnyH_take (i := 9) (oi := ⟨some 61, _, _, _, _, _⟩) (v := ?_) rfl (by kernel_rfl) (by kernel_rfl) (by kernel_rfl) (fun _ _ _ h => h) (Or.inl ⟨by rfl, ?_⟩) hHeld ?_
  rotate_left
  · intro w' hSw
    obtain ⟨f0, f1, f2, f5, f7⟩ := HCF.out w' ((hSw).blk HB5.out (fun h => h))
    go_simp
    first | done | rfl
  try simp only [Act.put, List.setIfInBounds_toArray, List.set_cons_zero, List.set_cons_succ]
  refine wpAnyH_ready (rs := [10]) (by kernel_rfl) (by simp) ?_
  refine AllReadyH.cons (o := ⟨some 62, _, _, _, _, _⟩) rfl (fun K hK => ?_) AllReadyH.nil
  go_simp
  refine (plain_any _ Ap Lp cp ps ((HRD.out.keep HKW5.out (no_out _ _)).keep hHeld (no_out _ _)) (by omega)).mono ?_
  rintro e v6 ⟨A6, c6, rfl, hM6⟩
  have hq6 := hHeld.trans hM6.2.2.2.1 (fun _ _ h => h)
  refine hK.out _ _ hq6 (fun hHeld => ?_)
  clear hK K
  try simp only [Act.put, List.setIfInBounds_toArray, List.set_cons_zero, List.set_cons_succ]
  refine wpAnyH_ready (rs := [11]) (by kernel_rfl) (by simp) ?_
  refine AllReadyH.cons (o := ⟨some 63, _, _, _, _, _⟩) rfl (fun K hK => ?_) AllReadyH.nil
  go_simp
  refine (HRE.out _ A6 c6 (HKW5.out.trans hHeld (fun _ _ h => h)) hM6.rd hM6.le).mono ?_
  rintro e v7 ⟨B7, n7, c7, rfl, hP7⟩
  have hq7 := hHeld.trans hP7 (fun _ _ h => h)
  refine hK.out _ _ hq7 (fun hHeld => ?_)
  clear hK K
  try simp only [Act.put, List.setIfInBounds_toArray, List.set_cons_zero, List.set_cons_succ]
  refine wpAnyH_take (i := 12) (oi := ⟨some 51, _, _, _, _, _⟩) (v := ?_) rfl (by kernel_rfl) (by kernel_rfl) (by kernel_rfl) (fun _ _ _ h => h) (Or.inl ⟨by rfl, ?_⟩) hHeld ?_
  rotate_left
  · intro w' hSw
    go_simp
    first | done | rfl
  try simp only [Act.put, List.setIfInBounds_toArray, List.set_cons_zero, List.set_cons_succ]
  refine wpAnyH_take (i := 13) (oi := ⟨some 64, _, _, _, _, _⟩) (v := ?_) rfl (by kernel_rfl) (by kernel_rfl) (by kernel_rfl) (fun _ _ _ h => h) (Or.inl ⟨by rfl, ?_⟩) hHeld ?_
  rotate_left
  · intro w' hSw
    go_simp
    first | done | rfl
  try simp only [Act.put, List.setIfInBounds_toArray, List.set_cons_zero, List.set_cons_succ]
  refine wpAnyH_take (i := 14) (oi := ⟨some 65, _, _, _, _, _⟩) (v := ?_) rfl (by kernel_rfl) (by kernel_rfl) (by kernel_rfl) (fun _ _ _ h => h) (Or.inl ⟨by rfl, ?_⟩) hHeld ?_
  rotate_left
  · intro w' hSw
    go_simp
    first | done | rfl
  try simp only [Act.put, List.setIfInBounds_toArray, List.set_cons_zero, List.set_cons_succ]
  refine wpAnyH_take (i := 15) (oi := ⟨some 66, _, _, _, _, _⟩) (v := ?_) rfl (by kernel_rfl) (by kernel_rfl) (by kernel_rfl) (fun _ _ _ h => h) (Or.inl ⟨by rfl, ?_⟩) hHeld ?_
  rotate_left
  · intro w' hSw
    go_simp
    first | done | rfl
  try simp only [Act.put, List.setIfInBounds_toArray, List.set_cons_zero, List.set_cons_succ]
  refine wpAnyH_take (i := 16) (oi := ⟨some 7, _, _, _, _, _⟩) (v := ?_) rfl (by kernel_rfl) (by kernel_rfl) (by kernel_rfl) (fun _ _ _ h => h) (Or.inl ⟨by rfl, ?_⟩) hHeld ?_
  rotate_left
  · intro w' hSw
    go_simp
    first | done | rfl
  try simp only [Act.put, List.setIfInBounds_toArray, List.set_cons_zero, List.set_cons_succ]
  refine wpAnyH_take (i := 17) (oi := ⟨some 8, _, _, _, _, _⟩) (v := ?_) rfl (by kernel_rfl) (by kernel_rfl) (by kernel_rfl) (fun _ _ _ h => h) (Or.inl ⟨by rfl, ?_⟩) hHeld ?_
  rotate_left
  · intro w' hSw
    go_simp
    first | done | rfl
  try simp only [Act.put, List.setIfInBounds_toArray, List.set_cons_zero, List.set_cons_succ]
  refine wpAnyH_take (i := 18) (oi := ⟨some 9, _, _, _, _, _⟩) (v := ?_) rfl (by kernel_rfl) (by kernel_rfl) (by kernel_rfl) (fun _ _ _ h => h) (Or.inl ⟨by rfl, ?_⟩) hHeld ?_
  rotate_left
  · intro w' hSw
    go_simp
    first | done | rfl
  try simp only [Act.put, List.setIfInBounds_toArray, List.set_cons_zero, List.set_cons_succ]
  refine wpAnyH_done (by kernel_rfl) ?_ _
  have HKW7 := Lib.hid (HKW5.out.trans hq7 (fun _ _ h => h))
  have HB7 := Lib.hid (hq7.blk HB5.out (fun h => h))
  have HMG7 := Lib.hid (HMG.out.keep (HK5.out.trans hq7 (fun _ _ h => h)))
  have HMS7 := Lib.hid ((HM3.out.keep HMG.out.2.2.2.1).keep (HK5.out.trans hq7 (fun _ _ h => h)))
  clear hP7
  clear hq6 hq7 hM6 hHeld
  go_upto_region 13 with (first
    | (go_at_call 22; refine (HTL.out _).mono ?_; rintro e w8 ⟨rfl, hk8⟩; have HK8 := Lib.hid hk8; obtain ⟨f0, f1, f2, f5, f7⟩ := HCF.out w8 (hk8.blk HB7.out (fun h => h)); clear hk8)
    | (go_at_call 21; refine (plain_any _ Ap Lp cp ps ((HRD.out.keep HKW7.out (no_out _ _)).keep HK8.out (no_out _ _)) (by omega)).mono ?_; rintro e w9 ⟨A9, c9, rfl, hM9⟩; have HM9 := Lib.hid hM9; have HK9 := Lib.hid (HK8.out.trans hM9.2.2.2.1 (fun _ _ h => h)); clear hM9)
    | (go_at_call 20; refine (same_any _ AG A9 Lp cG c9 ps (HMG7.out.rd.keep HK9.out (no_out _ _)) HM9.out.rd (by omega)).mono ?_; rintro e wA ⟨rfl, hkA⟩; have HKA := Lib.hid (HK9.out.trans hkA (fun _ _ h => h)); clear hkA f0 f1 f2 f5 f7; obtain ⟨f0, f1, f2, f5, f7⟩ := HCF.out wA (HKA.out.blk HB7.out (fun h => h))))
  clear f0 f1 f2 f5 f7
  have HBA := Lib.hid (HKA.out.blk HB7.out (fun h => h))
  have HMSA := Lib.hid (HMS7.out.keep HKA.out)
  have HKWA := Lib.hid (HKW7.out.trans HKA.out (fun _ _ h => h))
  have HCM : Hid (∀ W, (Instr.sliceAt 42 (.slice BS N cS) none (some (.int .i64 m')) none).run Tryd.prog W = .ok (.slice (cutD BS cS 0) m' cS) W) := Lib.hid (cutD_h Tryd.underlying42 (by kernel_rfl) BS N cS m' m' rfl (by have := HMSA.out.le; omega))
  have HORA := Lib.hid fun W (hW : Keeps (fun _ => False) wA W) => (HCR.out W (hW.blk HBA.out (fun h => h))).2
  refine wp_region_held_drew (S := Keeps (fun _ => False) wA) (by kernel_rfl) (Keeps.refl (fun _ => False) _).drew (fun hHeld => ?_)
  refine wpAnyH_take (i := 0) (oi := ⟨some 87, _, _, _, _, _⟩) (v := ?_) rfl (by kernel_rfl) (by kernel_rfl) (by kernel_rfl) (fun _ _ _ h => h) (Or.inl ⟨by rfl, ?_⟩) hHeld ?_
  rotate_left
  · intro w' hSw
    go_simp
    first | done | rfl
  try simp only [Act.put, List.setIfInBounds_toArray, List.set_cons_zero, List.set_cons_succ]
  refine wpAnyH_take (i := 1) (oi := ⟨some 88, _, _, _, _, _⟩) (v := _) rfl (by kernel_rfl) (by kernel_rfl) (by kernel_rfl) (fun _ _ _ h => h) (yieldsIf_load_mid (by rfl) _ _ rfl _ _ rfl OV _ (fun w' h => HORA.out _ h) Tryd.underlying24 rfl HOI.out) hHeld ?_
  try simp only [Act.put, List.setIfInBounds_toArray, List.set_cons_zero, List.set_cons_succ]
  refine wpAnyH_take (i := 2) (oi := ⟨some 89, _, _, _, _, _⟩) (v := ?_) rfl (by kernel_rfl) (by kernel_rfl) (by kernel_rfl) (fun _ _ _ h => h) (Or.inl ⟨by rfl, ?_⟩) hHeld ?_
  rotate_left
  · intro w' hSw
    go_simp
    first | done | rfl
  try simp only [Act.put, List.setIfInBounds_toArray, List.set_cons_zero, List.set_cons_succ]
  refine wpAnyH_take (i := 3) (oi := ⟨some 90, _, _, _, _, _⟩) (v := ?_) rfl (by kernel_rfl) (by kernel_rfl) (by kernel_rfl) (fun _ _ _ h => h) (Or.inl ⟨by rfl, ?_⟩) hHeld ?_
  rotate_left
  · intro w' hSw
    go_simp
    first | done | rfl
  try simp only [Act.put, List.setIfInBounds_toArray, List.set_cons_zero, List.set_cons_succ]
  refine wpAnyH_take (i := 4) (oi := ⟨some 91, _, _, _, _, _⟩) (v := ?_) rfl (by kernel_rfl) (by kernel_rfl) (by kernel_rfl) (fun _ _ _ h => h) (Or.inl ⟨by rfl, ?_⟩) hHeld ?_
  rotate_left
  · intro w' hSw
    obtain ⟨f0, f1, f2, f5, f7⟩ := HCF.out w' ((hSw).blk HBA.out (fun h => h))
    go_simp
    first | done | rfl
  try simp only [Act.put, List.setIfInBounds_toArray, List.set_cons_zero, List.set_cons_succ]
  refine wpAnyH_take (i := 5) (oi := ⟨some 92, _, _, _, _, _⟩) (v := ?_) rfl (by kernel_rfl) (by kernel_rfl) (by kernel_rfl) (fun _ _ _ h => h) (Or.inl ⟨by rfl, ?_⟩) hHeld ?_
  rotate_left
  · intro w' hSw
    have cv := HCM.out w'
    go_simp
    first | done | rfl
  try simp only [Act.put, List.setIfInBounds_toArray, List.set_cons_zero, List.set_cons_succ]
  refine wpAnyH_ready (rs := [6]) (by kernel_rfl) (by simp) ?_
  refine AllReadyH.cons (o := ⟨some 93, _, _, _, _, _⟩) rfl (fun K hK => ?_) AllReadyH.nil
  go_simp
  refine (HRT.out _ _ _ _ _ HMSA.out hHeld).mono ?_
  rintro e v1 ⟨rfl, hk1⟩
  have hqa := hHeld.trans hk1 (fun _ _ h => h)
  refine hK.out _ _ hqa (fun hHeld => ?_)
  clear hK K
  try simp only [Act.put, List.setIfInBounds_toArray, List.set_cons_zero, List.set_cons_succ]
  refine wpAnyH_take (i := 7) (oi := ⟨some 94, _, _, _, _, _⟩) (v := ?_) rfl (by kernel_rfl) (by kernel_rfl) (by kernel_rfl) (fun _ _ _ h => h) (Or.inl ⟨by rfl, ?_⟩) hHeld ?_
  rotate_left
  · intro w' hSw
    have cv := HEQ.out w'
    go_simp
    first | done | rfl
  try simp only [Act.put, List.setIfInBounds_toArray, List.set_cons_zero, List.set_cons_succ]
  refine wpAnyH_take (i := 8) (oi := ⟨some 95, _, _, _, _, _⟩) (v := ?_) rfl (by kernel_rfl) (by kernel_rfl) (by kernel_rfl) (fun _ _ _ h => h) (Or.inl ⟨by rfl, ?_⟩) hHeld ?_
  rotate_left
  · intro w' hSw
    go_simp
    first | done | rfl
  try simp only [Act.put, List.setIfInBounds_toArray, List.set_cons_zero, List.set_cons_succ]
  refine wpAnyH_take (i := 9) (oi := ⟨some 96, _, _, _, _, _⟩) (v := undef) rfl (by kernel_rfl) (by kernel_rfl) (by kernel_rfl) (fun _ _ _ h => h) (Or.inr ⟨by rfl, rfl⟩) hHeld ?_
  try simp only [Act.put, List.setIfInBounds_toArray, List.set_cons_zero, List.set_cons_succ]
  refine wpAnyH_take (i := 10) (oi := ⟨some 97, _, _, _, _, _⟩) (v := undef) rfl (by kernel_rfl) (by kernel_rfl) (by kernel_rfl) (fun _ _ _ h => h) (Or.inr ⟨by rfl, rfl⟩) hHeld ?_
  try simp only [Act.put, List.setIfInBounds_toArray, List.set_cons_zero, List.set_cons_succ]
  refine wpAnyH_take (i := 11) (oi := ⟨some 98, _, _, _, _, _⟩) (v := undef) rfl (by kernel_rfl) (by kernel_rfl) (by kernel_rfl) (fun _ _ _ h => h) (Or.inr ⟨by rfl, rfl⟩) hHeld ?_
  try simp only [Act.put, List.setIfInBounds_toArray, List.set_cons_zero, List.set_cons_succ]
  refine wpAnyH_take (i := 12) (oi := ⟨some 99, _, _, _, _, _⟩) (v := undef) rfl (by kernel_rfl) (by kernel_rfl) (by kernel_rfl) (fun _ _ _ h => h) (Or.inr ⟨by rfl, rfl⟩) hHeld ?_
  try simp only [Act.put, List.setIfInBounds_toArray, List.set_cons_zero, List.set_cons_succ]
  refine wpAnyH_take (i := 13) (oi := ⟨some 100, _, _, _, _, _⟩) (v := undef) rfl (by kernel_rfl) (by kernel_rfl) (by kernel_rfl) (fun _ _ _ h => h) (Or.inr ⟨by rfl, rfl⟩) hHeld ?_
  try simp only [Act.put, List.setIfInBounds_toArray, List.set_cons_zero, List.set_cons_succ]
  refine wpAnyH_take (i := 14) (oi := ⟨some 101, _, _, _, _, _⟩) (v := undef) rfl (by kernel_rfl) (by kernel_rfl) (by kernel_rfl) (fun _ _ _ h => h) (Or.inr ⟨by rfl, rfl⟩) hHeld ?_
  try simp only [Act.put, List.setIfInBounds_toArray, List.set_cons_zero, List.set_cons_succ]
  refine wpAnyH_take (i := 15) (oi := ⟨some 102, _, _, _, _, _⟩) (v := undef) rfl (by kernel_rfl) (by kernel_rfl) (by kernel_rfl) (fun _ _ _ h => h) (Or.inr ⟨by rfl, rfl⟩) hHeld ?_
  try simp only [Act.put, List.setIfInBounds_toArray, List.set_cons_zero, List.set_cons_succ]
  refine wpAnyH_take (i := 16) (oi := ⟨some 103, _, _, _, _, _⟩) (v := undef) rfl (by kernel_rfl) (by kernel_rfl) (by kernel_rfl) (fun _ _ _ h => h) (Or.inr ⟨by rfl, rfl⟩) hHeld ?_
  try simp only [Act.put, List.setIfInBounds_toArray, List.set_cons_zero, List.set_cons_succ]
  refine wpAnyH_take (i := 17) (oi := ⟨some 104, _, _, _, _, _⟩) (v := undef) rfl (by kernel_rfl) (by kernel_rfl) (by kernel_rfl) (fun _ _ _ h => h) (Or.inr ⟨by rfl, rfl⟩) hHeld ?_
  try simp only [Act.put, List.setIfInBounds_toArray, List.set_cons_zero, List.set_cons_succ]
  refine wpAnyH_take (i := 18) (oi := ⟨some 105, _, _, _, _, _⟩) (v := ?_) rfl (by kernel_rfl) (by kernel_rfl) (by kernel_rfl) (fun _ _ _ h => h) (Or.inl ⟨by rfl, ?_⟩) hHeld ?_
  rotate_left
  · intro w' hSw
    go_simp
    first | done | rfl
  try simp only [Act.put, List.setIfInBounds_toArray, List.set_cons_zero, List.set_cons_succ]
  refine wpAnyH_take (i := 19) (oi := ⟨some 2, _, _, _, _, _⟩) (v := ?_) rfl (by kernel_rfl) (by kernel_rfl) (by kernel_rfl) (fun _ _ _ h => h) (Or.inl ⟨by rfl, ?_⟩) hHeld ?_
  rotate_left
  · intro w' hSw
    go_simp
    first | done | rfl
  try simp only [Act.put, List.setIfInBounds_toArray, List.set_cons_zero, List.set_cons_succ]
  refine wpAnyH_done (by kernel_rfl) ?_ _
  go_wp2
  go_ret
  exact ⟨rfl, HKWA.out.trans hHeld (fun _ _ h => h)⟩
set_option maxRecDepth 100000 in
set_option maxHeartbeats 8000000 in
theorem chkg_neq (w : World) (m n : Int) (old root old' root' : List Int) (hold : IsDig old) (hroot : IsDig root) (hold' : IsDig old') (hroot' : IsDig root') (ofM ofN : Bool) (A : Option Addr) (N c : Nat) (pss : List (List Int)) (hl : pss.length = N) (hp : RdPartsO (fun _ => False) w A pss) (hN : N ≤ 2000) (hcap : N ≤ c) (hsm : ∀ bs ∈ pss, bs.length ≤ 2147483648)
    (Ap : Option Addr) (Lp cp : Nat) (ps : List (List Int)) (hr : RdD w Ap Lp ps) (hLp : Lp ≤ 2000) (hw0 : weigh pss < 2147483648)
    (hset : ∀ W, Keeps (fun _ => False) w W → Calls Tryd.prog 25 #[.agg (claimV (.slice A N c) m n old root (.slice Ap Lp cp) ofM ofN).toArray] W fun e w' => ∃ B c', e = .returned (.tuple #[.agg (claimV (.slice A N c) m n old' root' (.slice Ap Lp cp) ofM ofN).toArray, .slice B N c', .bool true]) ∧ MineD W w' 23 B N c' (pss.map leafF))
    
    (hck : ∀ W A' c', Keeps (fun _ => False) w W → RdD W A' Lp ps → Lp ≤ c' → Calls Tryd.prog 30 #[.int .i64 m, .agg (vb old').toArray, .int .i64 n, .agg (vb root').toArray, .slice A' Lp c'] W fun e w' => e = .returned (.nilIface) ∧ Keeps (fun _ => False) W w')
    (htl : ∀ W, Calls Tryd.prog 22 #[.nilIface, .int .i64 0, .int .i64 0] W fun e w' => e = .returned (.bool true) ∧ Keeps (fun _ => False) W w')
    (RS : List (List Int)) (hRL : RS.length ≤ 1000)
    (hre : ∀ W A' c', Keeps (fun _ => False) w W → RdD W A' Lp ps → Lp ≤ c' → Calls Tryd.prog 31 #[.int .i64 m, .agg (vb old').toArray, .int .i64 n, .agg (vb root').toArray, .slice A' Lp c'] W fun e w' => ∃ B nr c', e = .returned (.tuple #[.int .i64 0, .int .i64 0, .slice B nr c']) ∧ MineP W w' 22 B nr c' RS)
    (hof : ofN = true) (hm0 : 0 ≤ m) (hn0 : 0 < n) (hnN : n ≤ (N : Int)) (hmn : m ≤ n) (d : List Int) (hd : d = brootF ((pss.map leafF).take m.toNat)) (hq : old' ≠ d) (hex : Exc RS (rowsF (pss.take n.toNat))) :
    Calls Tryd.prog 7 #[.agg (claimV (.slice A N c) m n old root (.slice Ap Lp cp) ofM ofN).toArray] w fun e w' => e = .returned (.bool true) ∧ Keeps (fun _ => False) w w' := by
  subst hof
  obtain ⟨C0, hC0⟩ : ∃ C, C = claimV (.slice A N c) m n old root (.slice Ap Lp cp) ofM true := ⟨_, rfl⟩
  obtain ⟨C1, hC1⟩ : ∃ C, C = claimV (.slice A N c) m n old' root' (.slice Ap Lp cp) ofM true := ⟨_, rfl⟩
  have h00 : C0[0]? = some (.slice A N c) := by rw [hC0]; rfl
  have h05 : C0[67]? = some (.slice Ap Lp cp) := by rw [hC0]; exact claimV_at _ _ _ _ _ _ hold.1 hroot.1 0
  have h10 : C1[0]? = some (.slice A N c) := by rw [hC1]; rfl
  have h11 : C1[1]? = some (.int .i64 m) := by rw [hC1]; rfl
  have h12 : C1[2]? = some (.int .i64 n) := by rw [hC1]; rfl
  have h15 : C1[67]? = some (.slice Ap Lp cp) := by rw [hC1]; exact claimV_at _ _ _ _ _ _ hold'.1 hroot'.1 0
  have h17 : C1[69]? = some (.bool true) := by rw [hC1]; exact claimV_at _ _ _ _ _ _ hold'.1 hroot'.1 2
  have hl0 : C0.length = 70 := by rw [hC0]; exact claimV_length _ _ _ _ _ _ hold.1 hroot.1
  have hl1 : C1.length = 70 := by rw [hC1]; exact claimV_length _ _ _ _ _ _ hold'.1 hroot'.1
  have hone : ∀ u ∈ C1, u.oneCell' = true := by rw [hC1]; exact claimV_one _ _ _ _ _ _ _ _ rfl rfl
  obtain ⟨RV, hRV⟩ : ∃ V, V = vb root' := ⟨_, rfl⟩
  obtain ⟨OV, hOV⟩ : ∃ V, V = vb old' := ⟨_, rfl⟩
  have HRL : Hid (RV.length = 32) := Lib.hid (by rw [hRV, vb_length]; exact hroot'.1)
  have HRI : Hid ((Tryd.prog.info? 24).map (·.size) = some RV.length) := Lib.hid (by rw [HRL.out]; kernel_rfl)
  have HOL : Hid (OV.length = 32) := Lib.hid (by rw [hOV, vb_length]; exact hold'.1)
  have HOI : Hid ((Tryd.prog.info? 24).map (·.size) = some OV.length) := Lib.hid (by rw [HOL.out]; kernel_rfl)
  have HRA : Hid ((C1.drop 35).take 32 = RV) := Lib.hid (by rw [hC1, hRV]; exact claimV_root _ _ _ _ _ _ hold'.1 hroot'.1)
  have HOA : Hid ((C1.drop 3).take 32 = OV) := Lib.hid (by rw [hC1, hOV]; exact claimV_old _ _ _ _ _ _ hold'.1)
  have HCI0 : Hid ((Tryd.prog.info? 50).map (·.size) = some C0.length) := Lib.hid (claimInfo hl0)
  have HCI1 : Hid ((Tryd.prog.info? 50).map (·.size) = some C1.length) := Lib.hid (claimInfo hl1)
  have HC1 := Lib.hid hone
  have HL01 : Hid (C1.length = C0.length) := Lib.hid (hl1.trans hl0.symm)
  obtain ⟨W2, hW2⟩ : ∃ W2, W2 = w.alloc (.cells C0.toArray 50) := ⟨_, rfl⟩
  have hk2 : Keeps (fun _ => False) w W2 := by rw [hW2]; exact (Keeps.refl _ w).alloc _
  have HB1 : Hid (Blk W2 w.heap.size 50 C0) := Lib.hid (by rw [hW2]; exact Blk.new w _ _)
  have HK2 := Lib.hid hk2
  have hby := beyond_any W2 A N c pss hl (hp.keep hk2 (fun _ h => h)) (by omega)
  have hdec : decide (2147483648 ≤ weigh pss) = false := decide_eq_false (by omega)
  rw [hdec] at hby
  have HBY := Lib.hid hby
  have HSE : Hid (∀ W, Keeps (fun _ => False) w W → Calls Tryd.prog 25 #[.agg C0.toArray] W fun e w' => ∃ B c', e = .returned (.tuple #[.agg C1.toArray, .slice B N c', .bool true]) ∧ MineD W w' 23 B N c' (pss.map leafF)) := Lib.hid (by rw [hC0, hC1]; exact hset)
  have HCK : Hid (∀ W A' c', Keeps (fun _ => False) w W → RdD W A' Lp ps → Lp ≤ c' → Calls Tryd.prog 30 #[.int .i64 m, .agg OV.toArray, .int .i64 n, .agg RV.toArray, .slice A' Lp c'] W fun e w' => e = .returned (.nilIface) ∧ Keeps (fun _ => False) W w') := Lib.hid (by rw [hRV, hOV]; exact hck)
  have HRE : Hid (∀ W A' c', Keeps (fun _ => False) w W → RdD W A' Lp ps → Lp ≤ c' → Calls Tryd.prog 31 #[.int .i64 m, .agg OV.toArray, .int .i64 n, .agg RV.toArray, .slice A' Lp c'] W fun e w' => ∃ B nr c', e = .returned (.tuple #[.int .i64 0, .int .i64 0, .slice B nr c']) ∧ MineP W w' 22 B nr c' RS) := Lib.hid (by rw [hRV, hOV]; exact hre)
  have HTL := Lib.hid htl
  have HRD := Lib.hid hr
  have f0 : W2.cell? ⟨w.heap.size, 0, none⟩ = some (.slice A N c) := (HB1.out.cell 0).trans h00
  have f5 : W2.cell? ⟨w.heap.size, 67, none⟩ = some (.slice Ap Lp cp) := (HB1.out.cell 67).trans h05
  have HCF : Hid (∀ W, Blk W w.heap.size 50 C1 → W.cell? ⟨w.heap.size, 0, none⟩ = some (.slice A N c) ∧ W.cell? ⟨w.heap.size, 1, none⟩ = some (.int .i64 m) ∧ W.cell? ⟨w.heap.size, 2, none⟩ = some (.int .i64 n) ∧ W.cell? ⟨w.heap.size, 67, none⟩ = some (.slice Ap Lp cp) ∧ W.cell? ⟨w.heap.size, 69, none⟩ = some (.bool true)) := Lib.hid fun W hb =>
    ⟨(hb.cell 0).trans h10, (hb.cell 1).trans h11, (hb.cell 2).trans h12, (hb.cell 67).trans h15, (hb.cell 69).trans h17⟩
  have HCR : Hid (∀ W, Blk W w.heap.size 50 C1 → W.rangeAt w.heap.size 35 RV ∧ W.rangeAt w.heap.size 3 OV) := Lib.hid fun W hb => ⟨fun j v hv => by rw [hb.cell, ← HRA.out] at *; exact range_get hv, fun j v hv => by rw [hb.cell, ← HOA.out] at *; exact range_get hv⟩
  have hN1 : (N : Int) ≤ 2000 := by omega
  have hL1 : (Lp : Int) ≤ 2000 := by omega
  have g1 : ¬ (2000 : Int) < (N : Int) := by omega
  have g2 : ¬ (2000 : Int) < (Lp : Int) := by omega
  obtain ⟨m', rfl⟩ : ∃ k : Nat, m = k := ⟨m.toNat, by omega⟩
  obtain ⟨n', rfl⟩ : ∃ k : Nat, n = k := ⟨n.toNat, by omega⟩
  simp only [Int.toNat_natCast] at hd hex
  have hdd : IsDig d := by rw [hd]; exact dig_root ((digs_leaves pss).take _)
  obtain ⟨DV, hDV⟩ : ∃ V, V = vb d := ⟨_, rfl⟩
  have HEQ : Hid (∀ W, (Op.equalIn 10000 24 (.agg OV.toArray) (.agg DV.toArray)).run Tryd.prog W = .ok false W) := Lib.hid fun W => by
    have := digest_eql W old' d hold'.1 hdd.1
    rw [decide_eq_false hq] at this
    rw [hOV, hDV]
    exact eql_in this
  have HRT : Hid (∀ (W v X : World) B c', MineD W v 23 B N c' (pss.map leafF) → Keeps (fun _ => False) v X → Calls Tryd.prog 32 #[.slice (cutD B c' 0) m' c'] X fun e w' => e = .returned (.agg DV.toArray) ∧ Keeps (fun _ => False) X w') := Lib.hid fun W v X B c' hM hX => by
    rw [hDV, hd]
    exact rroot_any m' _ X _ _ (RdD.cutN (hM.rd.keep hX (no_out _ _)) _ (by omega)) (by have := hM.le; omega) (by omega)
  have HRW : Hid (∀ X, Keeps (fun _ => False) w X → Calls Tryd.prog 29 #[.slice (cutA A c 0) n' c] X fun e w' => ∃ B c', e = .returned (.slice B (rowsF (pss.take n')).length c') ∧ MineP X w' 22 B (rowsF (pss.take n')).length c' (rowsF (pss.take n'))) := Lib.hid fun X hX => by
    exact rrows_any n' (pss.take n') X (cutA A c 0) c (by rw [List.length_take]; omega) (RdPartsO.cutT (hp.keep hX (fun _ h => h)) hl (by omega) hcap) (by omega) (by omega) (by omega) (fun bs hb => hsm bs (List.mem_of_mem_take hb))
  have hrl : (rowsF (pss.take n')).length = 2 * n' - 1 := rowsF_length n' _ (by rw [List.length_take]; omega) (by omega)
  obtain ⟨RB, hRB⟩ : ∃ RB, RB = rowsF (pss.take n') := ⟨_, rfl⟩
  rw [← hRB] at HRW hrl hex
  obtain ⟨nb, hnb⟩ : ∃ nb, nb = RB.length := ⟨_, rfl⟩
  rw [← hnb] at HRW hrl
  have hnbp : 0 < nb := by omega
  have hnb2 : nb ≤ 4000 := by omega
  have HNB := Lib.hid hnb
  have HXC : Hid (∀ k, k = RS.length + nb → Alike (RS ++ RB) k → False) := Lib.hid fun k hk hal => by
    obtain ⟨r, hr1, q, hq1, h1, h2⟩ := hex
    obtain ⟨i, hi⟩ := List.mem_iff_getElem?.1 hr1
    obtain ⟨j, hj⟩ := List.mem_iff_getElem?.1 hq1
    have hil := (List.getElem?_eq_some_iff.1 hi).1
    have hjl := (List.getElem?_eq_some_iff.1 hj).1
    exact h2 (hal i (RS.length + j) r q (by omega) (by omega) (by rw [List.getElem?_append_left hil]; exact hi) (by rw [List.getElem?_append_right (by omega), Nat.add_sub_cancel_left]; exact hj) h1)
  have HCU : Hid (∀ W, (Instr.sliceAt 26 (.slice A N c) none (some (.int .i64 n')) none).run Tryd.prog W = .ok (.slice (cutA A c 0) n' c) W) := Lib.hid (cut_h Tryd.underlying26 (by kernel_rfl) A N c n' n' rfl (by omega))
  rw [← hC0]
  clear hC0 hC1 h00 h05 h10 h11 h12 h15 h17 hl0 hl1 hone hRV hOV hold hroot hold' hroot' hby hdec hset hck hre htl hr hp hl hsm hk2 hw0 hN hLp hd hdd hDV hq hex hRB hnb hrl
  go_enter Tryd.func7, Tryd.ntmps7
  go_upto_region 1 with fail
  rw [← hW2]
  clear hW2
  go_upto_region 6 with (first
    | (go_at_call 10; refine HBY.out.mono ?_; rintro e w9 ⟨rfl, hw9⟩; subst hw9)
    | ((with_reducible show wpList _ _ _ (⟨_, Op.load 50 _, _, _, _, _⟩ :: _) _ _); refine wpList_load_whole rfl 50 _ rfl _ rfl HB1.out Tryd.underlying50 rfl HCI0.out ?_)
    | (go_at_call 25; refine (HSE.out _ HK2.out).mono ?_; rintro e wS ⟨BS, cS, rfl, hmS⟩; have HMS := Lib.hid hmS; clear hmS)
    | ((with_reducible show wpList _ _ _ (⟨none, Op.store 50 _ _, _, _, _, _⟩ :: _) _ _); refine wpList_store_whole rfl 50 _ _ rfl C1 rfl rfl (HMS.out.2.2.2.1.blk HB1.out (fun h => h)) (by rw [HL01.out]) HCI1.out HC1.out ?_; refine gen_world (fun W => Blk W w.heap.size 50 C1 ∧ Keeps (fun i => i = w.heap.size) wS W) ⟨(HMS.out.2.2.2.1.blk HB1.out (fun h => h)).setRow C1, (Keeps.refl (fun i => i = w.heap.size) wS).setRow (.inl rfl) _⟩ ?_; rintro W3 ⟨hb3, hk3⟩; have HB3 := Lib.hid hb3; have HK3 := Lib.hid hk3; clear hb3 hk3))
  have HKS := Lib.hid (HK2.out.trans HMS.out.2.2.2.1 (fun _ _ h => h))
  have HKW3 := Lib.hid (HKS.out.trans HK3.out (fun i hi e => by have := HKS.out.size; omega))
  have HM3 := Lib.hid (MineD.wide HMS.out HK2.out HK3.out (fun g e => by omega) (fun g e => by have := HB1.out.lt; omega))
  clear f0 f5
  have w1 : IntKind.i64.wrap ((Lp : Int) + 1) = (Lp : Int) + 1 := IntWalk.i64_in _ (by omega)
  have HLP1 : Hid ((Lp : Int) + 1 = ((Lp + 1 : Nat) : Int)) := Lib.hid (by omega)
  refine wp_region_held_drew (S := Keeps (fun _ => False) W3) (by kernel_rfl) (Keeps.refl (fun _ => False) _).drew (fun hHeld => ?_)
  refine wpAnyH_take (i := 0) (oi := ⟨some 33, _, _, _, _, _⟩) (v := ?_) rfl (by kernel_rfl) (by kernel_rfl) (by kernel_rfl) (fun _ _ _ h => h) (Or.inl ⟨by rfl, ?_⟩) hHeld ?_
  rotate_left
  · intro w' hSw
    go_simp
    first | done | rfl
  try simp only [Act.put, List.setIfInBounds_toArray, List.set_cons_zero, List.set_cons_succ]
  refine wpAnyH_take (i := 1) (oi := ⟨some 34, _, _, _, _, _⟩) (v := ?_) rfl (by kernel_rfl) (by kernel_rfl) (by kernel_rfl) (fun _ _ _ h => h) (Or.inl ⟨by rfl, ?_⟩) hHeld ?_
  rotate_left
  · intro w' hSw
    obtain ⟨f0, f1, f2, f5, f7⟩ := HCF.out w' ((hSw).blk HB3.out (fun h => h))
    go_simp
    first | done | rfl
  try simp only [Act.put, List.setIfInBounds_toArray, List.set_cons_zero, List.set_cons_succ]
  refine wpAnyH_take (i := 2) (oi := ⟨some 35, _, _, _, _, _⟩) (v := ?_) rfl (by kernel_rfl) (by kernel_rfl) (by kernel_rfl) (fun _ _ _ h => h) (Or.inl ⟨by rfl, ?_⟩) hHeld ?_
  rotate_left
  · intro w' hSw
    go_simp
    first | done | rfl
  try simp only [Act.put, List.setIfInBounds_toArray, List.set_cons_zero, List.set_cons_succ]
  refine wpAnyH_take (i := 3) (oi := ⟨some 36, _, _, _, _, _⟩) (v := ?_) rfl (by kernel_rfl) (by kernel_rfl) (by kernel_rfl) (fun _ _ _ h => h) (Or.inl ⟨by rfl, ?_⟩) hHeld ?_
  rotate_left
  · intro w' hSw
    go_simp
    first | done | rfl
  try simp only [Act.put, List.setIfInBounds_toArray, List.set_cons_zero, List.set_cons_succ]
  refine wpAnyH_take (i := 5) (oi := ⟨some 38, _, _, _, _, _⟩) (v := ?_) rfl (by kernel_rfl) (by kernel_rfl) (by kernel_rfl) (fun _ _ _ h => h) (Or.inl ⟨by rfl, ?_⟩) hHeld ?_
  rotate_left
  · intro w' hSw
    go_simp
    first | done | rfl
  try simp only [Act.put, List.setIfInBounds_toArray, List.set_cons_zero, List.set_cons_succ]
  refine wpAnyH_take (i := 6) (oi := ⟨some 39, _, _, _, _, _⟩) (v := ?_) rfl (by kernel_rfl) (by kernel_rfl) (by kernel_rfl) (fun _ _ _ h => h) (Or.inl ⟨by rfl, ?_⟩) hHeld ?_
  rotate_left
  · intro w' hSw
    obtain ⟨f0, f1, f2, f5, f7⟩ := HCF.out w' ((hSw).blk HB3.out (fun h => h))
    go_simp
    first | done | rfl
  try simp only [Act.put, List.setIfInBounds_toArray, List.set_cons_zero, List.set_cons_succ]
  refine wpAnyH_ready (rs := [4]) (by kernel_rfl) (by simp) ?_
  refine AllReadyH.cons (o := ⟨some 37, _, _, _, _, _⟩) rfl (fun K hK => ?_) AllReadyH.nil
  refine step_make_dig W3 _ rfl (.const (.int .i64 0)) (.tmp 36) 36 rfl 24 _ Tryd.underlying36 infoD .i64 .i64 _ (Lp + 1) rfl rfl HLP1.out (by omega) hHeld ?_
  intro A4 w4 hm4
  refine hK.out _ _ hm4.2.2.2.1 (fun hHeld => ?_)
  clear hK K
  try simp only [Act.put, List.setIfInBounds_toArray, List.set_cons_zero, List.set_cons_succ]
  refine wpAnyH_ready (rs := [7]) (by kernel_rfl) (by simp) ?_
  refine AllReadyH.cons (o := ⟨some 40, _, _, _, _, _⟩) rfl (fun K hK => ?_) AllReadyH.nil
  refine step_append_dig W3 _ rfl (.tmp 37) (.tmp 39) 36 rfl 24 _ Tryd.underlying36 infoD rfl A4 0 (Lp + 1) [] rfl hm4 Ap Lp cp ps rfl ((HRD.out.keep HKW3.out (no_out _ _)).keep hHeld (no_out _ _)) (by omega) ?_
  intro AG cG W4 hmG _ _
  rw [List.nil_append, Nat.zero_add] at hmG
  refine hK.out _ _ hmG.2.2.2.1 (fun hHeld => ?_)
  clear hK K
  try simp only [Act.put, List.setIfInBounds_toArray, List.set_cons_zero, List.set_cons_succ]
  refine wpAnyH_take (i := 8) (oi := ⟨some 5, _, _, _, _, _⟩) (v := ?_) rfl (by kernel_rfl) (by kernel_rfl) (by kernel_rfl) (fun _ _ _ h => h) (Or.inl ⟨by rfl, ?_⟩) hHeld ?_
  rotate_left
  · intro w' hSw
    go_simp
    first | done | rfl
  try simp only [Act.put, List.setIfInBounds_toArray, List.set_cons_zero, List.set_cons_succ]
  refine wpAnyH_done (by kernel_rfl) ?_ _
  clear w1
  have HMG := Lib.hid hmG
  have HKW4 := Lib.hid (HKW3.out.trans hmG.2.2.2.1 (fun _ _ h => h))
  have HB4 := Lib.hid (hmG.2.2.2.1.blk HB3.out (fun h => h))
  clear hmG hm4 hHeld
  obtain ⟨f0, f1, f2, f5, f7⟩ := HCF.out W4 HB4.out
  have HL70 : Hid (C1.length = 70) := Lib.hid (by have := HCI1.out; rw [show (Tryd.prog.info? 50).map (·.size) = some 70 by kernel_rfl] at this; injection this with this; exact this.symm)
  go_upto_region 8 with (first
    | ((with_reducible show wpList _ _ _ (⟨_, Op.load 24 (.tmp 43), _, _, _, _⟩ :: _) _ _); refine wpList_load_at rfl 24 _ rfl 3 32 _ rfl HB4.out (by rw [HL70.out]; omega) Tryd.underlying24 rfl (by kernel_rfl) ?_; rw [HOA.out])
    | ((with_reducible show wpList _ _ _ (⟨_, Op.load 24 (.tmp 47), _, _, _, _⟩ :: _) _ _); refine wpList_load_at rfl 24 _ rfl 35 32 _ rfl HB4.out (by rw [HL70.out]; omega) Tryd.underlying24 rfl (by kernel_rfl) ?_; rw [HRA.out])
    | (go_at_call 30; refine (HCK.out _ AG cG HKW4.out (HMG.out.rd.keep (Keeps.refl (fun _ => False) _) (no_out _ _)) HMG.out.le).mono ?_; rintro e W5 ⟨rfl, hk5⟩; have HK5 := Lib.hid hk5; clear hk5))
  clear f0 f1 f2 f5 f7
  have HKW5 := Lib.hid (HKW4.out.trans HK5.out (fun _ _ h => h))
  have HB5 := Lib.hid (HK5.out.blk HB4.out (fun h => h))
  have HRR := Lib.hid fun W (hW : Keeps (fun _ => False) W5 W) => (HCR.out W (hW.blk HB5.out (fun h => h))).1
  have HOR := Lib.hid fun W (hW : Keeps (fun _ => False) W5 W) => (HCR.out W (hW.blk HB5.out (fun h => h))).2
  refine wp_region_held_drew (S := Keeps (fun _ => False) W5) (by kernel_rfl) (Keeps.refl (fun _ => False) _).drew (fun hHeld => ?_)
  refine wpAnyH_take (i := 0) (oi := ⟨some 52, _, _, _, _, _⟩) (v := ?_) rfl (by kernel_rfl) (by kernel_rfl) (by kernel_rfl) (fun _ _ _ h => h) (Or.inl ⟨by rfl, ?_⟩) hHeld ?_
  rotate_left
  · intro w' hSw
    go_simp
    first | done | rfl
  try simp only [Act.put, List.setIfInBounds_toArray, List.set_cons_zero, List.set_cons_succ]
  refine wpAnyH_take (i := 1) (oi := ⟨some 53, _, _, _, _, _⟩) (v := ?_) rfl (by kernel_rfl) (by kernel_rfl) (by kernel_rfl) (fun _ _ _ h => h) (Or.inl ⟨by rfl, ?_⟩) hHeld ?_
  rotate_left
  · intro w' hSw
    obtain ⟨f0, f1, f2, f5, f7⟩ := HCF.out w' ((hSw).blk HB5.out (fun h => h))
    go_simp
    first | done | rfl
  try simp only [Act.put, List.setIfInBounds_toArray, List.set_cons_zero, List.set_cons_succ]
  refine wpAnyH_take (i := 2) (oi := ⟨some 54, _, _, _, _, _⟩) (v := ?_) rfl (by kernel_rfl) (by kernel_rfl) (by kernel_rfl) (fun _ _ _ h => h) (Or.inl ⟨by rfl, ?_⟩) hHeld ?_
  rotate_left
  · intro w' hSw
    go_simp
    first | done | rfl
  try simp only [Act.put, List.setIfInBounds_toArray, List.set_cons_zero, List.set_cons_succ]
  refine wpAnyH_take (i := 3) (oi := ⟨some 55, _, _, _, _, _⟩) (v := _) rfl (by kernel_rfl) (by kernel_rfl) (by kernel_rfl) (fun _ _ _ h => h) (yieldsIf_load_mid (by rfl) _ _ rfl _ _ rfl OV _ (fun w' h => HOR.out _ h) Tryd.underlying24 rfl HOI.out) hHeld ?_
  try simp only [Act.put, List.setIfInBounds_toArray, List.set_cons_zero, List.set_cons_succ]
  refine wpAnyH_take (i := 4) (oi := ⟨some 56, _, _, _, _, _⟩) (v := ?_) rfl (by kernel_rfl) (by kernel_rfl) (by kernel_rfl) (fun _ _ _ h => h) (Or.inl ⟨by rfl, ?_⟩) hHeld ?_
  rotate_left
  · intro w' hSw
    go_simp
    first | done | rfl
  try simp only [Act.put, List.setIfInBounds_toArray, List.set_cons_zero, List.set_cons_succ]
  refine wpAnyH_take (i := 5) (oi := ⟨some 57, _, _, _, _, _⟩) (v := ?_) rfl (by kernel_rfl) (by kernel_rfl) (by kernel_rfl) (fun _ _ _ h => h) (Or.inl ⟨by rfl, ?_⟩) hHeld ?_
  rotate_left
  · intro w' hSw
    obtain ⟨f0, f1, f2, f5, f7⟩ := HCF.out w' ((hSw).blk HB5.out (fun h => h))
    go_simp
    first | done | rfl
  try simp only [Act.put, List.setIfInBounds_toArray, List.set_cons_zero, List.set_cons_succ]
  refine wpAnyH_take (i := 6) (oi := ⟨some 58, _, _, _, _, _⟩) (v := ?_) rfl (by kernel_rfl) (by kernel_rfl) (by kernel_rfl) (fun _ _ _ h => h) (Or.inl ⟨by rfl, ?_⟩) hHeld ?_
  rotate_left
  · intro w' hSw
    go_simp
    first | done | rfl
  try simp only [Act.put, List.setIfInBounds_toArray, List.set_cons_zero, List.set_cons_succ]
  refine wpAnyH_take (i := 7) (oi := ⟨some 59, _, _, _, _, _⟩) (v := _) rfl (by kernel_rfl) (by kernel_rfl) (by kernel_rfl) (fun _ _ _ h => h) (yieldsIf_load_mid (by rfl) _ _ rfl _ _ rfl RV _ (fun w' h => HRR.out _ h) Tryd.underlying24 rfl HRI.out) hHeld ?_
  try simp only [Act.put, List.setIfInBounds_toArray, List.set_cons_zero, List.set_cons_succ]
  refine wpAnyH_take (i := 8) (oi := ⟨some 60, _, _, _, _, _⟩) (v := ?_) rfl (by kernel_rfl) (by kernel_rfl) (by kernel_rfl) (fun _ _ _ h => h) (Or.inl ⟨by rfl, ?_⟩) hHeld ?_
  rotate_left
  · intro w' hSw
    go_simp
    first | done | rfl
  try simp only [Act.put, List.setIfInBounds_toArray, List.set_cons_zero, List.set_cons_succ]
  refine wpAnyH_take (i := 9) (oi := ⟨some 61, _, _, _, _, _⟩) (v := ?_) rfl (by kernel_rfl) (by kernel_rfl) (by kernel_rfl) (fun _ _ _ h => h) (Or.inl ⟨by rfl, ?_⟩) hHeld ?_
  rotate_left
  · intro w' hSw
    obtain ⟨f0, f1, f2, f5, f7⟩ := HCF.out w' ((hSw).blk HB5.out (fun h => h))
    go_simp
    first | done | rfl
  try simp only [Act.put, List.setIfInBounds_toArray, List.set_cons_zero, List.set_cons_succ]
  refine wpAnyH_ready (rs := [10]) (by kernel_rfl) (by simp) ?_
  refine AllReadyH.cons (o := ⟨some 62, _, _, _, _, _⟩) rfl (fun K hK => ?_) AllReadyH.nil
  go_simp
  refine (plain_any _ Ap Lp cp ps ((HRD.out.keep HKW5.out (no_out _ _)).keep hHeld (no_out _ _)) (by omega)).mono ?_
  rintro e v6 ⟨A6, c6, rfl, hM6⟩
  have hq6 := hHeld.trans hM6.2.2.2.1 (fun _ _ h => h)
  refine hK.out _ _ hq6 (fun hHeld => ?_)
  clear hK K
  try simp only [Act.put, List.setIfInBounds_toArray, List.set_cons_zero, List.set_cons_succ]
  refine wpAnyH_ready (rs := [11]) (by kernel_rfl) (by simp) ?_
  refine AllReadyH.cons (o := ⟨some 63, _, _, _, _, _⟩) rfl (fun K hK => ?_) AllReadyH.nil
  go_simp
  refine (HRE.out _ A6 c6 (HKW5.out.trans hHeld (fun _ _ h => h)) hM6.rd hM6.le).mono ?_
  rintro e v7 ⟨B7, n7, c7, rfl, hP7⟩
  have hq7 := hHeld.trans hP7.keeps (fun _ _ h => h)
  refine hK.out _ _ hq7 (fun hHeld => ?_)
  clear hK K
  try simp only [Act.put, List.setIfInBounds_toArray, List.set_cons_zero, List.set_cons_succ]
  refine wpAnyH_take (i := 12) (oi := ⟨some 51, _, _, _, _, _⟩) (v := ?_) rfl (by kernel_rfl) (by kernel_rfl) (by kernel_rfl) (fun _ _ _ h => h) (Or.inl ⟨by rfl, ?_⟩) hHeld ?_
  rotate_left
  · intro w' hSw
    go_simp
    first | done | rfl
  try simp only [Act.put, List.setIfInBounds_toArray, List.set_cons_zero, List.set_cons_succ]
  refine wpAnyH_take (i := 13) (oi := ⟨some 64, _, _, _, _, _⟩) (v := ?_) rfl (by kernel_rfl) (by kernel_rfl) (by kernel_rfl) (fun _ _ _ h => h) (Or.inl ⟨by rfl, ?_⟩) hHeld ?_
  rotate_left
  · intro w' hSw
    go_simp
    first | done | rfl
  try simp only [Act.put, List.setIfInBounds_toArray, List.set_cons_zero, List.set_cons_succ]
  refine wpAnyH_take (i := 14) (oi := ⟨some 65, _, _, _, _, _⟩) (v := ?_) rfl (by kernel_rfl) (by kernel_rfl) (by kernel_rfl) (fun _ _ _ h => h) (Or.inl ⟨by rfl, ?_⟩) hHeld ?_
  rotate_left
  · intro w' hSw
    go_simp
    first | done | rfl
  try simp only [Act.put, List.setIfInBounds_toArray, List.set_cons_zero, List.set_cons_succ]
  refine wpAnyH_take (i := 15) (oi := ⟨some 66, _, _, _, _, _⟩) (v := ?_) rfl (by kernel_rfl) (by kernel_rfl) (by kernel_rfl) (fun _ _ _ h => h) (Or.inl ⟨by rfl, ?_⟩) hHeld ?_
  rotate_left
  · intro w' hSw
    go_simp
    first | done | rfl
  try simp only [Act.put, List.setIfInBounds_toArray, List.set_cons_zero, List.set_cons_succ]
  refine wpAnyH_take (i := 16) (oi := ⟨some 7, _, _, _, _, _⟩) (v := ?_) rfl (by kernel_rfl) (by kernel_rfl) (by kernel_rfl) (fun _ _ _ h => h) (Or.inl ⟨by rfl, ?_⟩) hHeld ?_
  rotate_left
  · intro w' hSw
    go_simp
    first | done | rfl
  try simp only [Act.put, List.setIfInBounds_toArray, List.set_cons_zero, List.set_cons_succ]
  refine wpAnyH_take (i := 17) (oi := ⟨some 8, _, _, _, _, _⟩) (v := ?_) rfl (by kernel_rfl) (by kernel_rfl) (by kernel_rfl) (fun _ _ _ h => h) (Or.inl ⟨by rfl, ?_⟩) hHeld ?_
  rotate_left
  · intro w' hSw
    go_simp
    first | done | rfl
  try simp only [Act.put, List.setIfInBounds_toArray, List.set_cons_zero, List.set_cons_succ]
  refine wpAnyH_take (i := 18) (oi := ⟨some 9, _, _, _, _, _⟩) (v := ?_) rfl (by kernel_rfl) (by kernel_rfl) (by kernel_rfl) (fun _ _ _ h => h) (Or.inl ⟨by rfl, ?_⟩) hHeld ?_
  rotate_left
  · intro w' hSw
    go_simp
    first | done | rfl
  try simp only [Act.put, List.setIfInBounds_toArray, List.set_cons_zero, List.set_cons_succ]
  refine wpAnyH_done (by kernel_rfl) ?_ _
  have HKW7 := Lib.hid (HKW5.out.trans hq7 (fun _ _ h => h))
  have HB7 := Lib.hid (hq7.blk HB5.out (fun h => h))
  have HMG7 := Lib.hid (HMG.out.keep (HK5.out.trans hq7 (fun _ _ h => h)))
  have HMS7 := Lib.hid ((HM3.out.keep HMG.out.2.2.2.1).keep (HK5.out.trans hq7 (fun _ _ h => h)))
  have HP7 := Lib.hid hP7
  have HKV6 := Lib.hid (HKW5.out.trans hq6 (fun _ _ h => h))
  clear hP7
  clear hq6 hq7 hM6 hHeld
  go_upto_region 13 with (first
    | (go_at_call 22; refine (HTL.out _).mono ?_; rintro e w8 ⟨rfl, hk8⟩; have HK8 := Lib.hid hk8; obtain ⟨f0, f1, f2, f5, f7⟩ := HCF.out w8 (hk8.blk HB7.out (fun h => h)); clear hk8)
    | (go_at_call 21; refine (plain_any _ Ap Lp cp ps ((HRD.out.keep HKW7.out (no_out _ _)).keep HK8.out (no_out _ _)) (by omega)).mono ?_; rintro e w9 ⟨A9, c9, rfl, hM9⟩; have HM9 := Lib.hid hM9; have HK9 := Lib.hid (HK8.out.trans hM9.2.2.2.1 (fun _ _ h => h)); clear hM9)
    | (go_at_call 20; refine (same_any _ AG A9 Lp cG c9 ps (HMG7.out.rd.keep HK9.out (no_out _ _)) HM9.out.rd (by omega)).mono ?_; rintro e wA ⟨rfl, hkA⟩; have HKA := Lib.hid (HK9.out.trans hkA (fun _ _ h => h)); clear hkA f0 f1 f2 f5 f7; obtain ⟨f0, f1, f2, f5, f7⟩ := HCF.out wA (HKA.out.blk HB7.out (fun h => h))))
  clear f0 f1 f2 f5 f7
  have HBA := Lib.hid (HKA.out.blk HB7.out (fun h => h))
  have HMSA := Lib.hid (HMS7.out.keep HKA.out)
  have HKWA := Lib.hid (HKW7.out.trans HKA.out (fun _ _ h => h))
  have HCM : Hid (∀ W, (Instr.sliceAt 42 (.slice BS N cS) none (some (.int .i64 m')) none).run Tryd.prog W = .ok (.slice (cutD BS cS 0) m' cS) W) := Lib.hid (cutD_h Tryd.underlying42 (by kernel_rfl) BS N cS m' m' rfl (by have := HMSA.out.le; omega))
  have HORA := Lib.hid fun W (hW : Keeps (fun _ => False) wA W) => (HCR.out W (hW.blk HBA.out (fun h => h))).2
  have hP7n : n7 ≤ 1000 := by rw [← HP7.out.1]; exact hRL
  refine wp_region_tail (S := Keeps (fun _ => False) wA) 16 (by kernel_rfl) (Keeps.refl (fun _ => False) _).drew (fun hHeld => ?_)
  refine wpAnyT_pure (i := 0) (oi := ⟨some 87, _, _, _, _, _⟩) (v := ?_) rfl (by kernel_rfl) (by kernel_rfl) (by kernel_rfl) (fun _ _ _ h => h) (Or.inl ⟨by rfl, ?_⟩) ?_
  rotate_left
  · intro w' hSw
    go_simp
    first | done | rfl
  try simp only [Act.put, List.setIfInBounds_toArray, List.set_cons_zero, List.set_cons_succ]
  refine wpAnyT_take [1, 7, 8] (i := 1) (oi := ⟨some 88, _, _, _, _, _⟩) (v := _) rfl (by kernel_rfl) (by kernel_rfl) (by kernel_rfl) (by kernel_rfl) (by kernel_rfl) (fun _ _ _ h => h) (yieldsIf_load_mid (by rfl) _ _ rfl _ _ rfl OV _ (fun w' h => HORA.out _ h) Tryd.underlying24 rfl HOI.out) hHeld ?_
  try simp only [Act.put, List.setIfInBounds_toArray, List.set_cons_zero, List.set_cons_succ]
  refine wpAnyT_pure (i := 2) (oi := ⟨some 89, _, _, _, _, _⟩) (v := ?_) rfl (by kernel_rfl) (by kernel_rfl) (by kernel_rfl) (fun _ _ _ h => h) (Or.inl ⟨by rfl, ?_⟩) ?_
  rotate_left
  · intro w' hSw
    go_simp
    first | done | rfl
  try simp only [Act.put, List.setIfInBounds_toArray, List.set_cons_zero, List.set_cons_succ]
  refine wpAnyT_pure (i := 3) (oi := ⟨some 90, _, _, _, _, _⟩) (v := ?_) rfl (by kernel_rfl) (by kernel_rfl) (by kernel_rfl) (fun _ _ _ h => h) (Or.inl ⟨by rfl, ?_⟩) ?_
  rotate_left
  · intro w' hSw
    go_simp
    first | done | rfl
  try simp only [Act.put, List.setIfInBounds_toArray, List.set_cons_zero, List.set_cons_succ]
  refine wpAnyT_take [4, 5, 6, 8] (i := 4) (oi := ⟨some 91, _, _, _, _, _⟩) (v := ?_) rfl (by kernel_rfl) (by kernel_rfl) (by kernel_rfl) (by kernel_rfl) (by kernel_rfl) (fun _ _ _ h => h) (Or.inl ⟨by rfl, ?_⟩) hHeld ?_
  rotate_left
  · intro w' hSw
    obtain ⟨f0, f1, f2, f5, f7⟩ := HCF.out w' ((hSw).blk HBA.out (fun h => h))
    go_simp
    first | done | rfl
  try simp only [Act.put, List.setIfInBounds_toArray, List.set_cons_zero, List.set_cons_succ]
  refine wpAnyT_pure (i := 5) (oi := ⟨some 92, _, _, _, _, _⟩) (v := ?_) rfl (by kernel_rfl) (by kernel_rfl) (by kernel_rfl) (fun _ _ _ h => h) (Or.inl ⟨by rfl, ?_⟩) ?_
  rotate_left
  · intro w' hSw
    have cv := HCM.out w'
    go_simp
    first | done | rfl
  try simp only [Act.put, List.setIfInBounds_toArray, List.set_cons_zero, List.set_cons_succ]
  refine wpAnyT_step (i := 6) (o := ⟨some 93, _, _, _, _, _⟩) (by kernel_rfl) rfl (fun K hK => ?_)
  go_simp
  refine (HRT.out _ _ _ _ _ HMSA.out hHeld).mono ?_
  rintro e v1 ⟨rfl, hk1⟩
  have hqa := hHeld.trans hk1 (fun _ _ h => h)
  refine hK.out _ _ hqa (fun hHeld => ?_)
  clear hK K
  try simp only [Act.put, List.setIfInBounds_toArray, List.set_cons_zero, List.set_cons_succ]
  refine wpAnyT_pure (i := 7) (oi := ⟨some 94, _, _, _, _, _⟩) (v := ?_) rfl (by kernel_rfl) (by kernel_rfl) (by kernel_rfl) (fun _ _ _ h => h) (Or.inl ⟨by rfl, ?_⟩) ?_
  rotate_left
  · intro w' hSw
    have cv := HEQ.out w'
    go_simp
    first | done | rfl
  try simp only [Act.put, List.setIfInBounds_toArray, List.set_cons_zero, List.set_cons_succ]
  refine wpAnyT_pure (i := 8) (oi := ⟨some 95, _, _, _, _, _⟩) (v := ?_) rfl (by kernel_rfl) (by kernel_rfl) (by kernel_rfl) (fun _ _ _ h => h) (Or.inl ⟨by rfl, ?_⟩) ?_
  rotate_left
  · intro w' hSw
    go_simp
    first | done | rfl
  try simp only [Act.put, List.setIfInBounds_toArray, List.set_cons_zero, List.set_cons_succ]
  refine wpAnyT_pure (i := 9) (oi := ⟨some 96, _, _, _, _, _⟩) (v := ?_) rfl (by kernel_rfl) (by kernel_rfl) (by kernel_rfl) (fun _ _ _ h => h) (Or.inl ⟨by rfl, ?_⟩) ?_
  rotate_left
  · intro w' hSw
    go_simp
    first | done | rfl
  try simp only [Act.put, List.setIfInBounds_toArray, List.set_cons_zero, List.set_cons_succ]
  refine wpAnyT_pure (i := 10) (oi := ⟨some 97, _, _, _, _, _⟩) (v := ?_) rfl (by kernel_rfl) (by kernel_rfl) (by kernel_rfl) (fun _ _ _ h => h) (Or.inl ⟨by rfl, ?_⟩) ?_
  rotate_left
  · intro w' hSw
    go_simp
    first | done | rfl
  try simp only [Act.put, List.setIfInBounds_toArray, List.set_cons_zero, List.set_cons_succ]
  refine wpAnyT_take [11, 14, 15, 16, 17] (i := 11) (oi := ⟨some 98, _, _, _, _, _⟩) (v := ?_) rfl (by kernel_rfl) (by kernel_rfl) (by kernel_rfl) (by kernel_rfl) (by kernel_rfl) (fun _ _ _ h => h) (Or.inl ⟨by rfl, ?_⟩) hHeld ?_
  rotate_left
  · intro w' hSw
    obtain ⟨f0, f1, f2, f5, f7⟩ := HCF.out w' ((hSw).blk HBA.out (fun h => h))
    go_simp
    first | done | rfl
  try simp only [Act.put, List.setIfInBounds_toArray, List.set_cons_zero, List.set_cons_succ]
  refine wpAnyT_pure (i := 12) (oi := ⟨some 99, _, _, _, _, _⟩) (v := ?_) rfl (by kernel_rfl) (by kernel_rfl) (by kernel_rfl) (fun _ _ _ h => h) (Or.inl ⟨by rfl, ?_⟩) ?_
  rotate_left
  · intro w' hSw
    go_simp
    first | done | rfl
  try simp only [Act.put, List.setIfInBounds_toArray, List.set_cons_zero, List.set_cons_succ]
  refine wpAnyT_take [13, 14, 15, 16, 17] (i := 13) (oi := ⟨some 100, _, _, _, _, _⟩) (v := ?_) rfl (by kernel_rfl) (by kernel_rfl) (by kernel_rfl) (by kernel_rfl) (by kernel_rfl) (fun _ _ _ h => h) (Or.inl ⟨by rfl, ?_⟩) hHeld ?_
  rotate_left
  · intro w' hSw
    obtain ⟨f0, f1, f2, f5, f7⟩ := HCF.out w' ((hSw).blk HBA.out (fun h => h))
    go_simp
    first | done | rfl
  try simp only [Act.put, List.setIfInBounds_toArray, List.set_cons_zero, List.set_cons_succ]
  refine wpAnyT_pure (i := 14) (oi := ⟨some 101, _, _, _, _, _⟩) (v := ?_) rfl (by kernel_rfl) (by kernel_rfl) (by kernel_rfl) (fun _ _ _ h => h) (Or.inl ⟨by rfl, ?_⟩) ?_
  rotate_left
  · intro w' hSw
    have cv := HCU.out w'
    go_simp
    first | done | rfl
  try simp only [Act.put, List.setIfInBounds_toArray, List.set_cons_zero, List.set_cons_succ]
  refine wpAnyT_step (i := 15) (o := ⟨some 102, _, _, _, _, _⟩) (by kernel_rfl) rfl (fun K hK => ?_)
  go_simp
  refine (HRW.out _ (HKWA.out.trans hHeld (fun _ _ h => h))).mono ?_
  rintro e vR ⟨BR, cR, rfl, hPR⟩
  have hqR := hHeld.trans hPR.keeps (fun _ _ h => h)
  have hP7W := (HP7.out.keep HKA.out).keep hHeld
  obtain ⟨hlR, valsR, hMR, hER⟩ := id hPR
  obtain ⟨gR, rfl, _, _⟩ := hMR.form hnbp
  refine hK.out _ _ hqR (fun hHeld => ?_)
  clear hK K
  try simp only [Act.put, List.setIfInBounds_toArray, List.set_cons_zero, List.set_cons_succ]
  refine wpAnyT_tail (i := 16) (o := ⟨some 103, _, _, _, _, _⟩) (by kernel_rfl) (by kernel_rfl) rfl (fun K hK => ?_)
  refine step_append_rows_g v6 _ (by rfl) (.tmp 96) (.tmp 102) 26 rfl 22 (.slice none 0 0) Tryd.underlying26 infoRows rfl B7 n7 c7 RS rfl hP7W hPR.keeps ⟨gR, 0, none⟩ nb cR RB valsR rfl (by rw [hER.1, hlR]) (hMR.1.cells (g := gR) rfl) hER.weak hER.cells (by omega) ?_
  intro B9 c9 v9 hP9 _
  refine hK.out _ _ ?_
  clear hK K
  try simp only [Act.put, List.setIfInBounds_toArray, List.set_cons_zero, List.set_cons_succ]
  refine wpAnyT_tail (i := 17) (o := ⟨some 104, _, _, _, _, _⟩) (by kernel_rfl) (by kernel_rfl) rfl (fun K hK => ?_)
  go_simp
  refine (excuse_any _ B9 (n7 + nb) c9 (RS ++ RB) hP9.1 hP9.parts (by omega)).mono ?_
  rintro e vE ⟨bE, rfl, hkE, hbE⟩
  obtain rfl : bE = true := by
    cases bE
    · exact (HXC.out (n7 + nb) (by rw [HP7.out.1]) (hbE rfl)).elim
    · rfl
  refine hK.out _ _ ?_
  clear hK K
  try simp only [Act.put, List.setIfInBounds_toArray, List.set_cons_zero, List.set_cons_succ]
  refine wpAnyT_tail (i := 18) (o := ⟨some 105, _, _, _, _, _⟩) (by kernel_rfl) (by kernel_rfl) rfl (fun K hK => ?_)
  go_simp
  refine hK.out _ _ ?_
  clear hK K
  try simp only [Act.put, List.setIfInBounds_toArray, List.set_cons_zero, List.set_cons_succ]
  refine wpAnyT_tail (i := 19) (o := ⟨some 2, _, _, _, _, _⟩) (by kernel_rfl) (by kernel_rfl) rfl (fun K hK => ?_)
  go_simp
  refine hK.out _ _ ?_
  clear hK K
  try simp only [Act.put, List.setIfInBounds_toArray, List.set_cons_zero, List.set_cons_succ]
  refine wpAnyT_done (by kernel_rfl) ?_
  go_wp2
  go_ret
  exact ⟨rfl, (HKV6.out.trans hP9.keeps (fun _ _ h => h)).trans hkE (fun _ _ h => h)⟩
end Go.Proofs.YtknecjjdegngfaaDoor
