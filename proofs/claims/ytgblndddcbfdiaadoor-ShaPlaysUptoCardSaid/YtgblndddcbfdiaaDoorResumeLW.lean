/-
  WALK: resume (a Resume of both).
-/
import Derived.Test.YtgblndddcbfdiaaDoorToldW
import Derived.Test.YtgblndddcbfdiaaDoorFreshW
import Derived.Test.YtgblndddcbfdiaaDoorTailK
import Derived.Deep.DeepCutAuto
set_option linter.unusedSimpArgs false
namespace Go.Aff
open Go Go.RowKit
/-- A store into the middle of a block, inside a region that draws its order. -/
theorem stepH_store_at {P : Program} {Q : Exit → Act → World → Prop} {K : Act → World → Prop} {ops : Array Oper} {a : Act} {w : World} {o : Oper} {g : Nat} {t : TypeId} {cs : List Value} (hgd : o.guard = none) (ty : TypeId) (x v : Operand) (ho : o.op = .store ty x v)
    (off : Nat) (vs : List Value) (hx : a.eval x = .pointer (some ⟨g, off, none⟩)) (hv : a.eval v = .agg vs.toArray) (hg : Blk w g t cs) (hl : off + vs.length ≤ cs.length) (hi : (P.info? ty).map (·.size) = some vs.length) (h1 : ∀ v ∈ vs, v.oneCell' = true)
    (h : K (a.put o.dst undef) (w.setRow g (splice cs off vs).toArray)) : if Region.wanted o (yielded ops a.tmps) = true then Oper.wp P o a w K Q else K (a.put o.dst undef) w := by
  have hw : Region.wanted o (yielded ops a.tmps) = true := by simp [Region.wanted, hgd]
  rw [if_pos hw]
  have hst := run_storeVar_at (P := P) ty off vs hg hl hi h1
  unfold Oper.wp execOp
  simp only [ho, hx, hv, Instr.storeAt, Instr.sureAddr, Sem.run_bind, Sem.run_pure, Result.andThen_ok, hst]
  exact h
end Go.Aff
namespace Go.Proofs.YtgblndddcbfdiaaDoor
open Go Go.RowKit Go.Sha Go.Aff
set_option maxHeartbeats 4000000 in
set_option maxRecDepth 100000 in
theorem resume_ok (w : World) (st : Nat → Int) (nb r cm : Nat) (Am : Option Addr) (X : List Int) (hXl : X.length = r) (hr : r < 64) (hnb : nb < 36028797018963968) (hX : IsBytes X) (hrd : Rd w Am r (vb X))
    (gl kl gw kw gt kt : Nat) (LL WW TT : List Value) (TL TW TB : TypeId) (hl : Blk w gl TL LL) (hkl : kl < LL.length) (hw : Blk w gw TW WW) (hkw : kw + 10 ≤ WW.length) (ht : Blk w gt TB TT) (hkt : kt < TT.length) (n1 : gl ≠ gw) (n2 : gl ≠ gt) (n3 : gw ≠ gt) (ham : Out (fun i => i = gl ∨ i = gw ∨ i = gt) Am r) :
    Calls Tryd.prog 40 #[.pointer (some ⟨gl, kl, none⟩), .pointer (some ⟨gw, kw, none⟩), .pointer (some ⟨gt, kt, none⟩), .agg (hcells st (nb : Int) (.slice Am r cm)).toArray] w fun e w' => e = .returned (.bool true) ∧
      ∃ q u A c, HashAt w' q u st nb X ∧ (∀ i, Foot q u i → w.heap.size ≤ i) ∧ Rd w' A r (vb X) ∧ (∀ ad, A = some ad → w.heap.size ≤ ad.block ∧ ¬ Foot q u ad.block) ∧
        Blk w' gl TL (LL.set kl (.pointer (some ⟨q, 0, none⟩))) ∧ Blk w' gw TW (Go.Aff.splice WW kw (hcells st (nb : Int) (.slice A r c))) ∧ Blk w' gt TB (TT.set kt (.bool true)) ∧ Keeps (fun i => i = gl ∨ i = gw ∨ i = gt) w w' := by
  obtain ⟨M0, hM0⟩ : ∃ M, M = hcells st (nb : Int) (.slice Am r cm) := ⟨_, rfl⟩
  rw [← hM0]
  have hml : M0.length = 10 := by rw [hM0]; exact hcells_length _ _ _
  have HML := Lib.hid hml
  have HMI : Hid ((Tryd.prog.info? 49).map (·.size) = some M0.length) := Lib.hid (by rw [hml]; kernel_rfl)
  have HMC : Hid (∀ u ∈ M0, u.oneCell' = true) := Lib.hid (by rw [hM0]; exact hcells_one _ _ _ _ _)
  have HZ0 : Hid ((hcells (fun _ => 0) 0 (.slice none 0 0)).length = 10) := Lib.hid (by simp [hcells, wl])
  have HCL : Hid (∀ W, Keeps (fun _ => False) w W → Calls Tryd.prog 27 #[.slice Am r cm] W fun e w' => ∃ A c, e = .returned (.slice A r c) ∧ Mine W w' 5 A r c (vb X)) := Lib.hid fun W hW => by
    have h := clone_any W Am cm X (by rw [hXl]; exact hrd.keep hW (no_out _ _)) (by omega)
    have h2 := h.mono (show ∀ e w', NewBytes W X e w' → ∃ A c, e = .returned (.slice A r c) ∧ Mine W w' 5 A r c (vb X) from fun e w' h => by rw [← hXl]; exact h)
    rwa [hXl] at h2
  obtain ⟨W1, hW1⟩ : ∃ W1, W1 = w.alloc (.cells M0.toArray 49) := ⟨_, rfl⟩
  have HBX : Hid (Blk W1 w.heap.size 49 M0) := Lib.hid (by rw [hW1]; exact Blk.new w _ _)
  have HK1 : Hid (Keeps (fun _ => False) w W1) := Lib.hid (by rw [hW1]; exact (Keeps.refl _ w).alloc _)
  have HS1 : Hid (W1.heap.size = w.heap.size + 1) := Lib.hid (by rw [hW1]; simp)
  have HM0 := Lib.hid hM0
  have HBL := Lib.hid hl
  have HBW := Lib.hid hw
  have HBT := Lib.hid ht
  have HXL := Lib.hid hXl
  have HXB := Lib.hid hX
  have HRD := Lib.hid hrd
  have HOA := Lib.hid ham
  clear ham
  clear hM0 hml hXl hX hrd hl hw ht
  go_enter Tryd.func40, Tryd.ntmps40
  go_upto_region 1 with fail
  rw [← hW1]
  clear hW1
  go_upto_region 2 with (first
    | ((with_reducible show wpList _ _ _ (⟨_, Op.load 49 (.tmp 7), _, _, _, _⟩ :: _) _ _); refine wpList_load_whole rfl 49 _ rfl _ rfl HBX.out Tryd.underlying49 rfl HMI.out ?_)
    | ((with_reducible show wpList _ _ _ (⟨none, Op.store 49 (.tmp 9) _, _, _, _, _⟩ :: _) _ _); refine wpList_store_whole rfl 49 _ _ rfl M0 rfl rfl (Blk.new W1 49 (hcells (fun _ => 0) 0 (.slice none 0 0))) (by rw [HML.out, HZ0.out]) HMI.out HMC.out ?_; refine gen_world (fun W => Blk W W1.heap.size 49 M0 ∧ Keeps (fun _ => False) W1 W) ⟨(Blk.new W1 49 _).setRow M0, ((Keeps.refl (fun _ => False) W1).alloc _).setRow (.inr (Nat.le_refl _)) _⟩ ?_; rintro W2 ⟨hb2, hk2⟩; have HBI0 := Lib.hid hb2; have HK12 := Lib.hid hk2; clear hb2 hk2))
  rw [HS1.out]
  have HBI : Hid (Blk W2 (w.heap.size + 1) 49 M0) := Lib.hid (by have := HBI0.out; rwa [HS1.out] at this)
  have HK2 := Lib.hid (HK1.out.trans HK12.out (fun _ _ h => h))
  have HBX2 := Lib.hid (HK12.out.blk HBX.out (fun h => h))
  have HCM : Hid (∀ W, Keeps (fun i => i = w.heap.size + 1) W2 W → W.cell? ⟨w.heap.size, 9, none⟩ = some (.slice Am r cm)) := Lib.hid fun W hW => ((hW.blk HBX2.out (fun h => by omega)).cell 9).trans (by rw [HM0.out]; rfl)
  clear HBI0 HS1 HK12 HBX HK1 HZ0
  go_frame
  go_cut [] (fun wx => ∃ (g4 c4 : Nat), Hid (wx.ownsRow 0 5 1 (.slice (some ⟨g4, 0, none⟩) (r + 2) c4) (r + 2) (vb X ++ [.int .u8 9, .int .u8 9]) ∧ Blk wx (w.heap.size + 1) 49 (hcells st (nb : Int) (.slice (some ⟨g4, 0, none⟩) r c4)) ∧ W2.heap.size ≤ g4 ∧ Keeps (fun i => i = w.heap.size + 1) W2 wx))
  case first =>
    refine wp_region_held_drew (S := Keeps (fun i => i = (w.heap.size + 1)) W2) (by kernel_rfl) (Keeps.refl _ _).drew (fun hHeld => ?_)
    refine wpAnyH_take (i := 0) (oi := ⟨some 14, _, _, _, _, _⟩) (v := ?_) rfl (by kernel_rfl) (by kernel_rfl) (by kernel_rfl) (fun _ _ _ h => h) (Or.inl ⟨by rfl, ?_⟩) hHeld ?_
    rotate_left
    · intro w' hSw
      go_simp
      first | done | rfl
    try simp only [Act.put, List.setIfInBounds_toArray, List.set_cons_zero, List.set_cons_succ]
    refine wpAnyH_take (i := 1) (oi := ⟨some 15, _, _, _, _, _⟩) (v := ?_) rfl (by kernel_rfl) (by kernel_rfl) (by kernel_rfl) (fun _ _ _ h => h) (Or.inl ⟨by rfl, ?_⟩) hHeld ?_
    rotate_left
    · intro w' hSw
      have cm := HCM.out w' hSw
      go_simp
      first | done | rfl
    try simp only [Act.put, List.setIfInBounds_toArray, List.set_cons_zero, List.set_cons_succ]
    refine wpAnyH_take (i := 5) (oi := ⟨some 19, _, _, _, _, _⟩) (v := ?_) rfl (by kernel_rfl) (by kernel_rfl) (by kernel_rfl) (fun _ _ _ h => h) (Or.inl ⟨by rfl, ?_⟩) hHeld ?_
    rotate_left
    · intro w' hSw
      go_simp
      first | done | rfl
    try simp only [Act.put, List.setIfInBounds_toArray, List.set_cons_zero, List.set_cons_succ]
    refine wpAnyH_take (i := 6) (oi := ⟨some 20, _, _, _, _, _⟩) (v := ?_) rfl (by kernel_rfl) (by kernel_rfl) (by kernel_rfl) (fun _ _ _ h => h) (Or.inl ⟨by rfl, ?_⟩) hHeld ?_
    rotate_left
    · intro w' hSw
      have cm := HCM.out w' hSw
      go_simp
      first | done | rfl
    try simp only [Act.put, List.setIfInBounds_toArray, List.set_cons_zero, List.set_cons_succ]
    refine wpAnyH_take (i := 7) (oi := ⟨some 21, _, _, _, _, _⟩) (v := ?_) rfl (by kernel_rfl) (by kernel_rfl) (by kernel_rfl) (fun _ _ _ h => h) (Or.inl ⟨by rfl, ?_⟩) hHeld ?_
    rotate_left
    · intro w' hSw
      go_simp
      first | done | rfl
    try simp only [Act.put, List.setIfInBounds_toArray, List.set_cons_zero, List.set_cons_succ]
    refine wpAnyH_ready (rs := [2, 3]) (by kernel_rfl) (by simp) ?_
    refine (AllReadyH.cons (o := ⟨some 16, _, _, _, _, _⟩) rfl (fun K hK => ?_) (AllReadyH.cons (o := ⟨some 17, _, _, _, _, _⟩) rfl (fun K hK => ?_) AllReadyH.nil))
    · go_simp
      refine (HCL.out _ (HK2.out.trans hHeld (fun i hi e => by omega))).mono ?_
      rintro e v1 ⟨A1, c1, rfl, hm1⟩
      have hq1 := hHeld.trans hm1.2.1 (fun _ _ h => h.elim)
      have hbi := hm1.2.1.blk (HBI.out.drew) (fun h => h)
      refine hK.out _ _ hq1 (fun hHeld => ?_)
      clear hK K
      try simp only [Act.put, List.setIfInBounds_toArray, List.set_cons_zero, List.set_cons_succ]
      refine wpAnyH_ready (rs := [3]) (by kernel_rfl) (by simp) ?_
      refine (AllReadyH.cons (o := ⟨some 17, _, _, _, _, _⟩) rfl (fun K hK => ?_) AllReadyH.nil)
      go_simp
      have hmz := hm1.keep ((Keeps.refl (fun _ => False) v1).alloc (.cells #[Value.int .u8 9, Value.int .u8 9] 5))
      replace hbi := hbi.alloc (.cells #[Value.int .u8 9, Value.int .u8 9] 5)
      have hnew2 := Blk.new v1 5 [.int .u8 9, .int .u8 9]
      refine hK.out _ _ (hHeld.alloc _) (fun hHeld => ?_)
      clear hK K
      try simp only [Act.put, List.setIfInBounds_toArray, List.set_cons_zero, List.set_cons_succ]
      refine wpAnyH_ready (rs := [4]) (by kernel_rfl) (by simp) ?_
      refine (AllReadyH.cons (o := ⟨some 18, _, _, _, _, _⟩) rfl (fun K hK => ?_) AllReadyH.nil)
      skip
      refine step_append_own rfl (.tmp 16) (.tmp 17) 26 rfl 5 (.int .u8 0) 1 1 Tryd.underlying26 info5 rfl (by decide) A1 r c1 (vb X) rfl hmz.1 ⟨_, 0, none⟩ 2 2 [.int .u8 9, .int .u8 9] rfl rfl (fun j x hx => by rw [add_at, Nat.zero_add]; exact (hnew2.cell j).trans hx) (vb_one [9, 9]) (by simp only [maxLen]; omega) (by omega) ?_
      intro A4 c4 v4 ho4 hg4 hb4
      have hm4 := Mine.app0 hmz ho4 hg4 hb4
      obtain ⟨g4, rfl, hg4l, hc4⟩ := hm4.form (by omega)
      have hg4w : W2.heap.size ≤ g4 := Nat.le_trans (Nat.le_refl _) hg4l
      have hrc4 : r ≤ c4 := by omega
      replace hbi := (Keeps.of_grown hg4).blk hbi (fun h => absurd (Nat.le_trans (Nat.le_refl _) (hmz.2.2 _ h)) (Nat.not_le.mpr HBI.out.lt))
      have hq4 := hHeld.grown hg4 (fun g e => .inr (Nat.le_trans (Nat.le_refl _) (hmz.2.2 g e)))
      have hc9 := hbi.cell 9
      have hf9 := hbi.frozen 9
      rw [HM0.out] at hc9
      refine hK.out _ _ hq4 (fun hHeld => ?_)
      clear hK K
      try simp only [Act.put, List.setIfInBounds_toArray, List.set_cons_zero, List.set_cons_succ]
      refine wpAnyH_take (i := 8) (oi := ⟨some 22, _, _, _, _, _⟩) (v := ?_) rfl (by kernel_rfl) (by kernel_rfl) (by kernel_rfl) (fun _ _ _ h => h) (Or.inl ⟨by rfl, ?_⟩) hHeld ?_
      rotate_left
      · intro w' hSw
        go_simp
        first | done | rfl
      try simp only [Act.put, List.setIfInBounds_toArray, List.set_cons_zero, List.set_cons_succ]
      refine wpAnyH_take (i := 9) (oi := ⟨some 23, _, _, _, _, _⟩) (v := ?_) rfl (by kernel_rfl) (by kernel_rfl) (by kernel_rfl) (fun _ _ _ h => h) (Or.inl ⟨by rfl, ?_⟩) hHeld ?_
      rotate_left
      · intro w' hSw
        go_simp
        first | done | rfl
      try simp only [Act.put, List.setIfInBounds_toArray, List.set_cons_zero, List.set_cons_succ]
      refine wpAnyH_ready (rs := [10]) (by kernel_rfl) (by simp) ?_
      refine (AllReadyH.cons (o := ⟨none, _, _, _, _, _⟩) rfl (fun K hK => ?_) AllReadyH.nil)
      go_simp
      have hbz := hbi.set_ 9 (.slice (some ⟨g4, 0, none⟩) r c4)
      rw [HM0.out, hcells_set9] at hbz
      have hrz := own_keepN ((Keeps.refl (fun i => i = (w.heap.size + 1)) v4).setCell (p := ⟨(w.heap.size + 1), 9, none⟩) (.inl rfl) (.slice (some ⟨g4, 0, none⟩) r c4)) hm4.1 (by have := HBI.out.lt; omega)
      refine hK.out _ _ (hHeld.setCell (p := ⟨(w.heap.size + 1), 9, none⟩) (.inl rfl) _) (fun hHeld => ?_)
      clear hK K
      try simp only [Act.put, List.setIfInBounds_toArray, List.set_cons_zero, List.set_cons_succ]
      refine wpAnyH_done (by kernel_rfl) ?_ _
      go_wp2_with fail
      go_meet
      exact ⟨g4, c4, Lib.hid ⟨hrz, hbz, hg4w, hHeld⟩⟩
    · go_simp
      have hbi := HBI.out.drew.alloc (.cells #[Value.int .u8 9, Value.int .u8 9] 5)
      have hnew := Blk.new W2.drew 5 [.int .u8 9, .int .u8 9]
      refine hK.out _ _ (hHeld.alloc _) (fun hHeld => ?_)
      clear hK K
      try simp only [Act.put, List.setIfInBounds_toArray, List.set_cons_zero, List.set_cons_succ]
      refine wpAnyH_ready (rs := [2]) (by kernel_rfl) (by simp) ?_
      refine (AllReadyH.cons (o := ⟨some 16, _, _, _, _, _⟩) rfl (fun K hK => ?_) AllReadyH.nil)
      go_simp
      refine (HCL.out _ (HK2.out.trans hHeld (fun i hi e => by omega))).mono ?_
      rintro e v1 ⟨A1, c1, rfl, hm1⟩
      have hq1 := hHeld.trans hm1.2.1 (fun _ _ h => h.elim)
      replace hbi := hm1.2.1.blk hbi (fun h => h)
      have hnew2 := hm1.2.1.blk hnew (fun h => h)
      have hmz := hm1
      refine hK.out _ _ hq1 (fun hHeld => ?_)
      clear hK K
      try simp only [Act.put, List.setIfInBounds_toArray, List.set_cons_zero, List.set_cons_succ]
      refine wpAnyH_ready (rs := [4]) (by kernel_rfl) (by simp) ?_
      refine (AllReadyH.cons (o := ⟨some 18, _, _, _, _, _⟩) rfl (fun K hK => ?_) AllReadyH.nil)
      skip
      refine step_append_own rfl (.tmp 16) (.tmp 17) 26 rfl 5 (.int .u8 0) 1 1 Tryd.underlying26 info5 rfl (by decide) A1 r c1 (vb X) rfl hmz.1 ⟨_, 0, none⟩ 2 2 [.int .u8 9, .int .u8 9] rfl rfl (fun j x hx => by rw [add_at, Nat.zero_add]; exact (hnew2.cell j).trans hx) (vb_one [9, 9]) (by simp only [maxLen]; omega) (by omega) ?_
      intro A4 c4 v4 ho4 hg4 hb4
      have hm4 := Mine.app0 hmz ho4 hg4 hb4
      obtain ⟨g4, rfl, hg4l, hc4⟩ := hm4.form (by omega)
      have hg4w : W2.heap.size ≤ g4 := Nat.le_trans (by simp) hg4l
      have hrc4 : r ≤ c4 := by omega
      replace hbi := (Keeps.of_grown hg4).blk hbi (fun h => absurd (Nat.le_trans (show W2.heap.size ≤ (W2.drew.alloc (.cells #[Value.int .u8 9, Value.int .u8 9] 5)).heap.size by simp) (hmz.2.2 _ h)) (Nat.not_le.mpr HBI.out.lt))
      have hq4 := hHeld.grown hg4 (fun g e => .inr (Nat.le_trans (show W2.heap.size ≤ (W2.drew.alloc (.cells #[Value.int .u8 9, Value.int .u8 9] 5)).heap.size by simp) (hmz.2.2 g e)))
      have hc9 := hbi.cell 9
      have hf9 := hbi.frozen 9
      rw [HM0.out] at hc9
      refine hK.out _ _ hq4 (fun hHeld => ?_)
      clear hK K
      try simp only [Act.put, List.setIfInBounds_toArray, List.set_cons_zero, List.set_cons_succ]
      refine wpAnyH_take (i := 8) (oi := ⟨some 22, _, _, _, _, _⟩) (v := ?_) rfl (by kernel_rfl) (by kernel_rfl) (by kernel_rfl) (fun _ _ _ h => h) (Or.inl ⟨by rfl, ?_⟩) hHeld ?_
      rotate_left
      · intro w' hSw
        go_simp
        first | done | rfl
      try simp only [Act.put, List.setIfInBounds_toArray, List.set_cons_zero, List.set_cons_succ]
      refine wpAnyH_take (i := 9) (oi := ⟨some 23, _, _, _, _, _⟩) (v := ?_) rfl (by kernel_rfl) (by kernel_rfl) (by kernel_rfl) (fun _ _ _ h => h) (Or.inl ⟨by rfl, ?_⟩) hHeld ?_
      rotate_left
      · intro w' hSw
        go_simp
        first | done | rfl
      try simp only [Act.put, List.setIfInBounds_toArray, List.set_cons_zero, List.set_cons_succ]
      refine wpAnyH_ready (rs := [10]) (by kernel_rfl) (by simp) ?_
      refine (AllReadyH.cons (o := ⟨none, _, _, _, _, _⟩) rfl (fun K hK => ?_) AllReadyH.nil)
      go_simp
      have hbz := hbi.set_ 9 (.slice (some ⟨g4, 0, none⟩) r c4)
      rw [HM0.out, hcells_set9] at hbz
      have hrz := own_keepN ((Keeps.refl (fun i => i = (w.heap.size + 1)) v4).setCell (p := ⟨(w.heap.size + 1), 9, none⟩) (.inl rfl) (.slice (some ⟨g4, 0, none⟩) r c4)) hm4.1 (by have := HBI.out.lt; omega)
      refine hK.out _ _ (hHeld.setCell (p := ⟨(w.heap.size + 1), 9, none⟩) (.inl rfl) _) (fun hHeld => ?_)
      clear hK K
      try simp only [Act.put, List.setIfInBounds_toArray, List.set_cons_zero, List.set_cons_succ]
      refine wpAnyH_done (by kernel_rfl) ?_ _
      go_wp2_with fail
      go_meet
      exact ⟨g4, c4, Lib.hid ⟨hrz, hbz, hg4w, hHeld⟩⟩
  case rest =>
    obtain ⟨g4, c4, HX4⟩ := hcut
    have HKX : Hid (Keeps (fun _ => False) w wc) := Lib.hid (HK2.out.trans HX4.out.2.2.2 (fun i hi e => by omega))
    have HBXX := Lib.hid (HX4.out.2.2.2.blk HBX2.out (fun h => by omega))
    have HWS : Hid (w.heap.size + 1 < W2.heap.size) := Lib.hid HBI.out.lt
    have HRX : Hid (Rd wc (some ⟨g4, 0, none⟩) r (vb X)) := Lib.hid (by
      have := own_take HX4.out.1 r (by omega)
      rwa [List.take_left' (by simp [vb, HXL.out])] at this)
    have HRS := Lib.hid (Resume_ok wc st nb r c4 (some ⟨g4, 0, none⟩) X HXL.out hr hnb HRX.out HXB.out)
    obtain ⟨M1, hM1⟩ : ∃ M, M = hcells st (nb : Int) (.slice (some ⟨g4, 0, none⟩) r c4) := ⟨_, rfl⟩
    rw [← hM1] at HRS
    have HBIX : Hid (Blk wc (w.heap.size + 1) 49 M1) := Lib.hid (by rw [hM1]; exact HX4.out.2.1)
    have hml1 : M1.length = 10 := by rw [hM1]; exact hcells_length _ _ _
    have HMI1 : Hid ((Tryd.prog.info? 49).map (·.size) = some M1.length) := Lib.hid (by rw [hml1]; kernel_rfl)
    have HM1 := Lib.hid hM1
    clear hM1 hml1
    go_upto_region 4 with (first
      | ((with_reducible show wpList _ _ _ (⟨_, Op.load 49 (.tmp 9), _, _, _, _⟩ :: _) _ _); refine wpList_load_whole rfl 49 _ rfl _ rfl HBIX.out Tryd.underlying49 rfl HMI1.out ?_)
      | (go_at_call 30; refine HRS.out.mono ?_; rintro e w5 ⟨q, u, rfl, hq5, hk5, hf5⟩; have HQ5 := Lib.hid hq5; have HK5 := Lib.hid hk5; have HF5 := Lib.hid hf5; clear hq5 hk5 hf5))
    have HB5 := Lib.hid (HK5.out.blk HBIX.out (fun h => h))
    have HM5 := Lib.hid (HK5.out.blk HBXX.out (fun h => h))
    have HR5 := Lib.hid (HK5.out.own HX4.out.1 (fun _ _ h => h))
    have HKW5 : Hid (Keeps (fun _ => False) w w5) := Lib.hid (HKX.out.trans HK5.out (fun _ _ h => h))
    have i9 : w5.cell? ⟨w.heap.size + 1, 9, none⟩ = some (.slice (some ⟨g4, 0, none⟩) r c4) := (HB5.out.cell 9).trans (by rw [HM1.out]; rfl)
    have m9 : w5.cell? ⟨w.heap.size, 9, none⟩ = some (.slice Am r cm) := (HM5.out.cell 9).trans (by rw [HM0.out]; rfl)
    have HBE : Hid (Calls Tryd.prog 31 #[.slice (some ⟨g4, 0, none⟩) r c4, .slice Am r cm] w5 fun e w' => e = .returned (.bool true) ∧ w5 = w') := Lib.hid (by
      have := Equal_any w5 (some ⟨g4, 0, none⟩) Am r r c4 cm X X (HRX.out.keep HK5.out (no_out _ _)) (HRD.out.keep HKW5.out (no_out _ _)) HXB.out HXB.out
      rwa [decide_eq_true rfl] at this)
    have HR5' : Hid (w5.ownsRow 0 5 1 (.slice (some ⟨g4, 0, none⟩) (r + 2) c4) (r + 2) (vb X ++ [.int .u8 9, .int .u8 9])) := HR5
    go_upto_region 7 with (first
      | (go_at_call 31; refine HBE.out.mono ?_; rintro e w6 ⟨rfl, rfl⟩)
      | ((with_reducible show wpList _ _ _ (⟨none, Op.call _, _, _, _, _⟩ :: _) _ _); refine wpList_clear_own _ rfl (.tmp 36) 26 5 (.int .u8 0) rfl Tryd.underlying26 zero_u8 rfl rfl g4 r (r + 2) c4 _ rfl HR5'.out (by omega) ?_; intro w7 hk7; have HK7 := Lib.hid hk7; clear hk7))
    have HM7 := Lib.hid (HK7.out.blk HM5.out (fun h => by have := HX4.out.2.2.1; have := HWS.out; omega))
    have HK57 : Hid (Keeps (fun _ => False) w w7) := Lib.hid (HKW5.out.trans HK7.out (fun i hi e => by have := HX4.out.2.2.1; have := HWS.out; omega))
    have HL7 := Lib.hid (HK57.out.blk HBL.out (fun h => h))
    have HW7 := Lib.hid (HK57.out.blk HBW.out (fun h => h))
    have HT7 := Lib.hid (HK57.out.blk HBT.out (fun h => h))
    have HRD7 := Lib.hid (HRD.out.keep HK57.out (no_out _ _))
    have HQ7 : Hid (HashAt w7 q u st nb X) := Lib.hid (HQ5.out.keep HK7.out (fun i hi he => by have := HF5.out i hi; have := own_ltN HX4.out.1; omega))
    clear i9 m9
    have m7 : w7.cell? ⟨w.heap.size, 9, none⟩ = some (.slice Am r cm) := (HM7.out.cell 9).trans (by rw [HM0.out]; rfl)
    have m8 : w7.cell? ⟨w.heap.size, 8, none⟩ = some (.int .u64 nb) := (HM7.out.cell 8).trans (by rw [HM0.out]; rfl)
    have hr64 : (r : Int) < 64 := by omega
    have hmi : (nb : Int) < 36028797018963968 := by omega
    have hm0 : (0 : Int) ≤ nb := by omega
    obtain ⟨mi, hmi'⟩ : ∃ mi : Int, mi = nb := ⟨_, rfl⟩
    have HMI' := Lib.hid hmi'
    rw [← hmi'] at hmi hm0 m8
    have HNB := Lib.hid hnb
    clear hnb hmi'
    obtain ⟨xl, hxl⟩ : ∃ x, LL[kl]? = some x := ⟨_, List.getElem?_eq_getElem hkl⟩
    obtain ⟨xt, hxt⟩ : ∃ x, TT[kt]? = some x := ⟨_, List.getElem?_eq_getElem hkt⟩
    have c1 : w7.cell? ⟨gl, kl, none⟩ = some xl := (HL7.out.cell kl).trans hxl
    have f1 := HL7.out.frozen kl
    have HT8 : Hid (Blk (w7.setCell ⟨gl, kl, none⟩ (.pointer (some ⟨q, 0, none⟩))) gt TB TT) := Lib.hid (HT7.out.far (fun h => n2 h.symm) _)
    have c2 : (w7.setCell ⟨gl, kl, none⟩ (.pointer (some ⟨q, 0, none⟩))).cell? ⟨gt, kt, none⟩ = some xt := (HT8.out.cell kt).trans hxt
    have f2 := HT8.out.frozen kt
    go_upto_region 13 with (go_at_call 17; refine (number_nil _).mono ?_; rintro e w8 ⟨rfl, rfl⟩)
    obtain ⟨w9, hw9⟩ : ∃ W, W = (w7.setCell ⟨gl, kl, none⟩ (.pointer (some ⟨q, 0, none⟩))).setCell ⟨gt, kt, none⟩ (.bool true) := ⟨_, rfl⟩
    rw [← hw9]
    have HK9 : Hid (Keeps (fun i => i = gl ∨ i = gt) w7 w9) := Lib.hid (by rw [hw9]; exact ((Keeps.refl (fun i => i = gl ∨ i = gt) w7).setCell (p := ⟨gl, kl, none⟩) (.inl (.inl rfl)) _).setCell (p := ⟨gt, kt, none⟩) (.inl (.inr rfl)) _)
    have hll := HBL.out.lt
    have hlt := HBT.out.lt
    have hlw := HBW.out.lt
    have HM9 := Lib.hid (HK9.out.blk HM7.out (fun h => by omega))
    have HL9 : Hid (Blk w9 gl TL (LL.set kl (.pointer (some ⟨q, 0, none⟩)))) := Lib.hid (by rw [hw9]; exact (HL7.out.set_ kl _).far n2 _)
    have HT9 : Hid (Blk w9 gt TB (TT.set kt (.bool true))) := Lib.hid (by rw [hw9]; exact HT8.out.set_ kt _)
    have HW9 := Lib.hid (HK9.out.blk HW7.out (fun h => by omega))
    have HK09 : Hid (Keeps (fun i => i = gl ∨ i = gw ∨ i = gt) w w9) := Lib.hid ((HK57.out.mono (fun i _ h => h.elim)).trans HK9.out (fun i _ h => h.elim .inl (fun h => .inr (.inr h))))
    have HQ9 : Hid (HashAt w9 q u st nb X) := Lib.hid (HQ7.out.keep HK9.out (fun i hi he => by have := HF5.out i hi; have := HKX.out.size; omega))
    clear hw9 c1 f1 c2 f2 m7 m8 HT8
    have HC9 : Hid (∀ W, Keeps (fun _ => False) w9 W → W.cell? ⟨w.heap.size, 8, none⟩ = some (.int .u64 mi) ∧ W.cell? ⟨w.heap.size, 9, none⟩ = some (.slice Am r cm)) := Lib.hid fun W hW =>
      ⟨((hW.blk HM9.out (fun h => h)).cell 8).trans (by rw [HM0.out, HMI'.out]; rfl), ((hW.blk HM9.out (fun h => h)).cell 9).trans (by rw [HM0.out]; rfl)⟩
    have HRR : Hid (∀ W, Keeps (fun _ => False) w9 W → W.rangeAt w.heap.size 0 [.int .u32 (st 0), .int .u32 (st 1), .int .u32 (st 2), .int .u32 (st 3), .int .u32 (st 4), .int .u32 (st 5), .int .u32 (st 6), .int .u32 (st 7)]) := Lib.hid fun W hW j x hx => by
      have hj : j < 8 := by have := (List.getElem?_eq_some_iff.1 hx).1; simpa using this
      rw [Nat.zero_add, (hW.blk HM9.out (fun h => h)).cell, HM0.out, show hcells st (nb : Int) (.slice Am r cm) = [.int .u32 (st 0), .int .u32 (st 1), .int .u32 (st 2), .int .u32 (st 3), .int .u32 (st 4), .int .u32 (st 5), .int .u32 (st 6), .int .u32 (st 7)] ++ [.int .u64 nb, .slice Am r cm] from rfl, List.getElem?_append_left (by simpa using hj)]
      exact hx
    have HRD9 : Hid (Rd w9 Am r (vb X)) := Lib.hid (HRD.out.keep HK09.out HOA.out)
    have HCL9 : Hid (∀ W, Keeps (fun _ => False) w9 W → Calls Tryd.prog 27 #[.slice Am r cm] W fun e w' => ∃ A c, e = .returned (.slice A r c) ∧ Mine W w' 5 A r c (vb X)) := Lib.hid fun W hW => by
      have h := clone_any W Am cm X (by rw [HXL.out]; exact HRD9.out.keep hW (no_out _ _)) (by have := HXL.out; omega)
      have h2 := h.mono (show ∀ e w', NewBytes W X e w' → ∃ A c, e = .returned (.slice A r c) ∧ Mine W w' 5 A r c (vb X) from fun e w' h => by rw [← HXL.out]; exact h)
      rwa [HXL.out] at h2
    refine wp_region_last (S := Keeps (fun _ => False) w9) 10 (by kernel_rfl) ((Keeps.refl (fun _ => False) _).drew) (fun hHeld => ?_)
    refine wpAnyZ_take (i := 0) (oi := ⟨some 65, _, _, _, _, _⟩) (v := ?_) rfl (by kernel_rfl) (by kernel_rfl) (by kernel_rfl) (by kernel_rfl) (fun _ _ _ h => h) (Or.inl ⟨by rfl, ?_⟩) hHeld ?_
    rotate_left
    · intro w' hSw
      go_simp
      first | done | rfl
    try simp only [Act.put, List.setIfInBounds_toArray, List.set_cons_zero, List.set_cons_succ]
    refine wpAnyZ_take (i := 1) (oi := ⟨some 66, _, _, _, _, _⟩) (v := ?_) rfl (by kernel_rfl) (by kernel_rfl) (by kernel_rfl) (by kernel_rfl) (fun _ _ _ h => h) (Or.inl ⟨by rfl, ?_⟩) hHeld ?_
    rotate_left
    · intro w' hSw
      go_simp
      first | done | rfl
    try simp only [Act.put, List.setIfInBounds_toArray, List.set_cons_zero, List.set_cons_succ]
    refine wpAnyZ_take (i := 2) (oi := ⟨some 67, _, _, _, _, _⟩) (v := _) rfl (by kernel_rfl) (by kernel_rfl) (by kernel_rfl) (by kernel_rfl) (fun _ _ _ h => h) (yieldsIf_load_mid (by rfl) _ _ rfl _ _ rfl [.int .u32 (st 0), .int .u32 (st 1), .int .u32 (st 2), .int .u32 (st 3), .int .u32 (st 4), .int .u32 (st 5), .int .u32 (st 6), .int .u32 (st 7)] _ (fun w' h => HRR.out _ h) Tryd.underlying38 rfl (by kernel_rfl)) hHeld ?_
    try simp only [Act.put, List.setIfInBounds_toArray, List.set_cons_zero, List.set_cons_succ]
    refine wpAnyZ_take (i := 3) (oi := ⟨some 68, _, _, _, _, _⟩) (v := ?_) rfl (by kernel_rfl) (by kernel_rfl) (by kernel_rfl) (by kernel_rfl) (fun _ _ _ h => h) (Or.inl ⟨by rfl, ?_⟩) hHeld ?_
    rotate_left
    · intro w' hSw
      go_simp
      first | done | rfl
    try simp only [Act.put, List.setIfInBounds_toArray, List.set_cons_zero, List.set_cons_succ]
    refine wpAnyZ_take (i := 4) (oi := ⟨some 69, _, _, _, _, _⟩) (v := ?_) rfl (by kernel_rfl) (by kernel_rfl) (by kernel_rfl) (by kernel_rfl) (fun _ _ _ h => h) (Or.inl ⟨by rfl, ?_⟩) hHeld ?_
    rotate_left
    · intro w' hSw
      have cv := (HC9.out _ hSw).1
      go_simp
      first | done | rfl
    try simp only [Act.put, List.setIfInBounds_toArray, List.set_cons_zero, List.set_cons_succ]
    refine wpAnyZ_take (i := 5) (oi := ⟨some 70, _, _, _, _, _⟩) (v := ?_) rfl (by kernel_rfl) (by kernel_rfl) (by kernel_rfl) (by kernel_rfl) (fun _ _ _ h => h) (Or.inl ⟨by rfl, ?_⟩) hHeld ?_
    rotate_left
    · intro w' hSw
      go_simp
      first | done | rfl
    try simp only [Act.put, List.setIfInBounds_toArray, List.set_cons_zero, List.set_cons_succ]
    refine wpAnyZ_take (i := 6) (oi := ⟨some 71, _, _, _, _, _⟩) (v := ?_) rfl (by kernel_rfl) (by kernel_rfl) (by kernel_rfl) (by kernel_rfl) (fun _ _ _ h => h) (Or.inl ⟨by rfl, ?_⟩) hHeld ?_
    rotate_left
    · intro w' hSw
      have cv := (HC9.out _ hSw).2
      go_simp
      first | done | rfl
    try simp only [Act.put, List.setIfInBounds_toArray, List.set_cons_zero, List.set_cons_succ]
    refine wpAnyZ_step (i := 7) (o := ⟨some 72, _, _, _, _, _⟩) (by kernel_rfl) rfl (fun K hK => ?_)
    go_simp
    refine (HCL9.out _ hHeld).mono ?_
    rintro e v1 ⟨A, c, rfl, hma⟩
    have hq1 := hHeld.trans hma.2.1 (fun _ _ h => h)
    refine hK.out _ _ hq1 (fun hHeld => ?_)
    clear hK K
    try simp only [Act.put, List.setIfInBounds_toArray, List.set_cons_zero, List.set_cons_succ]
    refine wpAnyZ_take (i := 8) (oi := ⟨some 73, _, _, _, _, _⟩) (v := ?_) rfl (by kernel_rfl) (by kernel_rfl) (by kernel_rfl) (by kernel_rfl) (fun _ _ _ h => h) (Or.inl ⟨by rfl, ?_⟩) hHeld ?_
    rotate_left
    · intro w' hSw
      go_simp
      first | done | rfl
    try simp only [Act.put, List.setIfInBounds_toArray, List.set_cons_zero, List.set_cons_succ]
    refine wpAnyZ_take (i := 9) (oi := ⟨some 74, _, _, _, _, _⟩) (v := ?_) rfl (by kernel_rfl) (by kernel_rfl) (by kernel_rfl) (by kernel_rfl) (fun _ _ _ h => h) (Or.inl ⟨by rfl, ?_⟩) hHeld ?_
    rotate_left
    · intro w' hSw
      go_simp
      first | done | rfl
    try simp only [Act.put, List.setIfInBounds_toArray, List.set_cons_zero, List.set_cons_succ]
    refine wpAnyZ_last (o := ⟨none, _, _, _, _, _⟩) (by kernel_rfl) (by kernel_rfl) rfl (fun K hK => ?_)
    refine stepH_store_at rfl 67 _ _ rfl kw (hcells st mi (.slice A r c)) rfl rfl (hHeld.blk HW9.out (fun h => h)) (by rw [hcells_length]; exact hkw) (by rw [hcells_length]; kernel_rfl) (hcells_one _ _ _ _ _) ?_
    have HV1 := Lib.hid hHeld
    have HMA := Lib.hid hma
    obtain ⟨wz, hwz⟩ : ∃ W, W = v1.setRow gw (Go.Aff.splice WW kw (hcells st mi (.slice A r c))).toArray := ⟨_, rfl⟩
    rw [← hwz]
    refine hK.out _ _ ?_
    clear hK K
    try simp only [Act.put, List.setIfInBounds_toArray, List.set_cons_zero, List.set_cons_succ]

    clear hHeld hma hq1
    go_wp2_with fail
    go_ret
    have HKZ : Hid (Keeps (fun i => i = gw) v1 wz) := Lib.hid (by rw [hwz]; exact (Keeps.refl (fun i => i = gw) v1).setRow (.inl rfl) _)
    have hs9 := HK09.out.size
    have hs1 := HV1.out.size
    have hs5 : w.heap.size ≤ wc.heap.size := HKX.out.size
    have hll := HBL.out.lt
    have hlt := HBT.out.lt
    have hlw := HBW.out.lt
    have hs59 := HQ9.out.lt
    have hqb : ∀ i, Foot q u i → w.heap.size ≤ i := fun i hi => Nat.le_trans hs5 (HF5.out i hi)
    have h2 : ∀ ad, A = some ad → w9.heap.size ≤ ad.block := fun ad had => HMA.out.2.2 _ (by rw [had]; rfl)
    subst hwz
    refine ⟨rfl, q, u, A, c, ?_, hqb, ?_, ?_, ?_, ?_, ?_, ?_⟩
    · exact (HQ9.out.keep HV1.out (fun _ _ h => h)).keep HKZ.out (fun i hi he => by have := hqb i hi; omega)
    · exact (Rd.of_own HMA.out.1).keep HKZ.out (fun _ ad had he => by have := h2 ad had; have he' : ad.block = gw := he; omega)
    · intro ad had
      have := h2 ad had
      exact ⟨by omega, fun hf => by have := hs59 _ hf; omega⟩
    · exact HKZ.out.blk (HV1.out.blk HL9.out (fun h => h)) n1
    · rw [HMI'.out]; exact (HV1.out.blk HW9.out (fun h => h)).setRow _
    · exact HKZ.out.blk (HV1.out.blk HT9.out (fun h => h)) (fun h => n3 h.symm)
    · exact (HK09.out.trans HV1.out (fun _ _ h => h.elim)).trans HKZ.out (fun _ _ h => .inr (.inl h))
end Go.Proofs.YtgblndddcbfdiaaDoor
