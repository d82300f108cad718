/-
  WALKS: the statement ShaFolds.
-/
import Derived.Test.YtgblndddcbfdiaaDoorResW
import Derived.Test.YtgblndddcbfdiaaDoorShaRoundW
import Derived.Test.YtgblndddcbfdiaaDoorOpen
set_option linter.unusedSimpArgs false
namespace Go.Proofs.YtgblndddcbfdiaaDoor
open Go Go.RowKit Go.Sha Go.Aff

/-- While the blocks are taken, one by one: j are. -/
def FoldsRel (w : World) (Y : List Int) (N B : Nat) (v : Value) (wr : World) : Prop :=
  ∃ j A m c, v = .slice A m c ∧ m ≤ c ∧ 64 * j + m = N ∧ Rd wr A m (vb (Y.drop (64 * j))) ∧ Blk wr B 38 (wl (stN first Y j)) ∧ Keeps (fun _ => False) w wr ∧ w.heap.size ≤ B ∧ Out (fun i => i = B) A m

/-- The digest's bytes, while they are laid. -/
def FoldsDig (w : World) (B : Nat) (T : Nat → Int) (t : Nat) (wr : World) : Prop := Blk wr B 23 (digL T (4 * t)) ∧ Keeps (fun _ => False) w wr ∧ w.heap.size ≤ B

theorem FoldsDig.step {w wr : World} {B : Nat} {T : Nat → Int} {t : Nat} (h : FoldsDig w B T t wr) :
    FoldsDig w B T (t + 1) ((((wr.setCell ⟨B, 4 * t, none⟩ (.int .u8 (dg T (4 * t)))).setCell ⟨B, 4 * t + 1, none⟩ (.int .u8 (dg T (4 * t + 1)))).setCell ⟨B, 4 * t + 2, none⟩ (.int .u8 (dg T (4 * t + 2)))).setCell ⟨B, 4 * t + 3, none⟩ (.int .u8 (dg T (4 * t + 3)))) := by
  obtain ⟨h1, h2, h3⟩ := h
  have a := h1.set_ (4 * t) (.int .u8 (dg T (4 * t)))
  rw [digL_set] at a
  have b := a.set_ (4 * t + 1) (.int .u8 (dg T (4 * t + 1)))
  rw [digL_set] at b
  have c := b.set_ (4 * t + 2) (.int .u8 (dg T (4 * t + 2)))
  rw [digL_set] at c
  have d := c.set_ (4 * t + 3) (.int .u8 (dg T (4 * t + 3)))
  rw [digL_set] at d
  exact ⟨d, (((h2.setCell (.inr h3) _).setCell (.inr h3) _).setCell (.inr h3) _).setCell (.inr h3) _, h3⟩

set_option maxHeartbeats 4000000 in
set_option maxRecDepth 100000 in
theorem folds_any (w : World) (hG : Glob w) (Ab : Option Addr) (n cb : Nat) (bs : List Int) (hn : bs.length = n) (hr : Rd w Ab n (vb bs)) (hb : IsBytes bs) (hc : n ≤ cb) (hm : n ≤ 140737488351232) :
    Calls Tryd.prog 8 #[.slice Ab n cb] w fun e w' => e = .returned (.bool true) ∧ Keeps (fun _ => False) w w' := by
  have hP := Pad_any w n (by omega)
  have hPL := padLen_ge n
  have hPW := padLen_whole n
  have hPFl : (padF n).length = padLen n := padK_length n 8 (by omega)
  obtain ⟨PL, ePL⟩ : ∃ PL, PL = padLen n := ⟨_, rfl⟩
  obtain ⟨PF, ePF⟩ : ∃ PF, PF = padF n := ⟨_, rfl⟩
  have hPFb : IsBytes PF := by rw [ePF]; exact padF_bytes n
  rw [← ePL, ← ePF] at hP
  rw [← ePL] at hPL hPW hPFl
  rw [← ePF] at hPFl
  obtain ⟨Y, eY⟩ : ∃ Y, Y = bs ++ PF := ⟨_, rfl⟩
  obtain ⟨N, eN⟩ : ∃ N, N = n + PL := ⟨_, rfl⟩
  have hYl : Y.length = N := by rw [eY, List.length_append, hn, hPFl, eN]
  have hYb : IsBytes Y := by rw [eY]; exact bytes_append hb hPFb
  have hNb : N ≤ 140737488351304 := by omega
  have hN64 : (N : Int) % 64 = 0 := by omega
  have HY : Hid (Y = bs ++ padF n) := Lib.hid (by rw [eY, ePF])
  have HNE : Hid (N = n + padLen n) := Lib.hid (by rw [eN, ePL])
  have hcat : Hid (∀ w1, Keeps (fun _ => False) w w1 → Blk w1 w.heap.size 5 (vb PF) → Calls Tryd.prog 28 #[.slice (some ⟨w1.heap.size, 0, none⟩) 2 2] (w1.alloc (.cells #[.slice Ab n cb, .slice (some ⟨w.heap.size, 0, none⟩) PL PL] 26))
      fun e w' => ∃ A c, e = .returned (.slice A N c) ∧ w'.ownsRow 0 5 1 (.slice A N c) N (vb Y) ∧ Keeps (fun _ => False) w w' ∧ ∀ g, (Value.slice A N c).ownBlock = some g → w1.heap.size ≤ g) := by
    intro w1 hk1 hb1
    have hp := parts_two (fun _ => False) w1 26 Ab (some ⟨w.heap.size, 0, none⟩) n cb PL PL bs PF (fun _ h => h.elim) hn (hr.keep hk1 (no_out _ _)) (no_out _ _) hb hc hm hPFl (Rd.of_blk hb1 (by simp [vb, hPFl])) (no_out _ _) hPFb (Nat.le_refl _) (by omega)
    have := Concat_any _ _ 2 [bs, PF] hp (by simp) (by simp; omega)
    refine this.mono fun e w' ⟨A, c, he, ho, hk, hf⟩ => ?_
    have e1 : [bs, PF].flatten = Y := by rw [eY]; simp
    rw [e1, hYl] at he ho hf
    refine ⟨A, c, he, ho, (hk1.alloc _).trans hk (fun _ _ h => h), fun g hg => ?_⟩
    have := hf g hg
    simp at this
    omega
  have hsum := fun wr (hk : Keeps (fun _ => False) w wr) => sums_one wr (hG.keep hk (fun _ h => h.elim)) Ab n cb bs hn (hr.keep hk (no_out _ _)) hb hc hm
  obtain ⟨D, hD⟩ : ∃ D, D = vb (sumF first 0 bs) := ⟨_, rfl⟩
  have hDl : D.length = 32 := by rw [hD]; simp [vb, sumF_length]
  have hDi : (Tryd.prog.info? 23).map (·.size) = some D.length := by rw [hDl]; kernel_rfl
  have heq : ∀ W, (binOp .eql 23 (.agg D.toArray) (.agg D.toArray)).run Tryd.prog W = .ok (.bool true) W := by
    intro W
    rw [hD, digest_eql W _ _ (sumF_length _ _ _) (sumF_length _ _ _)]
    simp
  simp only [← hD] at hsum
  have HD := Lib.hid hD
  have HDL := Lib.hid hDl
  have HDI := Lib.hid hDi
  have HSUMS := Lib.hid hsum
  have HEQ := Lib.hid heq
  have HG := Lib.hid hG
  have HP := Lib.hid hP
  have HYL := Lib.hid hYl
  have HYB := Lib.hid hYb
  have HN := Lib.hid hn
  have HPL := Lib.hid eN
  clear hsum hD hDl hDi heq hG hn hr hb hP ePL ePF eY eN hYl hYb hPW hPFl hPFb
  go_enter Tryd.func8, Tryd.ntmps8
  go_wp2_with (first
    | (go_at_call 16; refine HP.out.mono ?_; rintro e w1 ⟨rfl, hb1, hk1⟩; have HB1 := Lib.hid hb1; have HK1 := Lib.hid hk1; clear hb1 hk1)
    | (go_at_call 28; refine (hcat.out w1 HK1.out HB1.out).mono ?_; rintro e w2 ⟨A2, c2, rfl, ho2, hk2, hf2⟩; have HO2 := Lib.hid ho2; have HK2 := Lib.hid hk2; have HF2 := Lib.hid hf2; clear ho2 hk2 hf2)
    | (go_at_call 29; refine (first_any _ (HG.out.keep HK2.out (fun _ h => h.elim))).mono ?_; rintro e w3 ⟨rfl, hk3⟩; have HK3 := Lib.hid hk3; clear hk3)
    | ((with_reducible show wpList _ _ _ (⟨none, Op.store 38 _ _, _, _, _, _⟩ :: _) _ _); refine wpList_store_whole rfl 38 _ _ rfl (wl first) rfl rfl (Blk.new w3 38 (List.replicate 8 (Value.int .u32 0))) (by simp [wl]) info8 (by intro v hv; obtain ⟨i, _, rfl⟩ := List.mem_map.1 hv; rfl) ?_))
  simp only [Act.put]
  have R0 : Hid (FoldsRel w Y N w3.heap.size (.slice A2 N c2) ((w3.alloc (.cells (List.replicate 8 (Value.int .u32 0)).toArray 38)).setRow w3.heap.size (wl first).toArray)) := by
    have k3 : Keeps (fun _ => False) w w3 := HK2.out.trans HK3.out (fun _ _ h => h)
    have hro := Rd.of_own HO2.out
    have hc2 : N ≤ c2 := by
      rcases HO2.out.2 with ⟨h1, h2⟩ | ⟨g, cap, cur, h1, _, _, h2, _⟩
      · omega
      · injection h1 with _ _ h1
        omega
    have hr3 := hro.keep HK3.out (no_out _ _)
    have hout : Out (fun i => i = w3.heap.size) A2 N := by
      intro h0 ad e hf
      obtain ⟨g, o, e1, hg⟩ := hr3.lt h0
      rw [e] at e1
      injection e1 with e1
      subst e1
      exact absurd hg (by show ¬ g < w3.heap.size; have : g = w3.heap.size := hf; omega)
    refine ⟨0, A2, N, c2, rfl, hc2, by omega, ?_, (Blk.new w3 _ _).setRow _, (k3.alloc _).setRow (.inr k3.size) _, k3.size, hout⟩
    simpa using (hr3.alloc _).keep ((Keeps.refl (fun i => i = w3.heap.size) _).setRow (.inl rfl) _) hout
  have HB6 : Hid (w3.heap.size = w3.heap.size) := rfl
  obtain ⟨B, hB⟩ : ∃ B, B = w3.heap.size := ⟨_, rfl⟩
  rw [← hB] at R0 ⊢
  clear HK2 HO2 HF2 HK3 HB1 HK1 HB6 HP hcat hB
  go_loopw [5] (fun v wr => FoldsRel w Y N B v wr) (fun v _ => lenV v)
  case atStart => exact R0.out
  case round =>
    clear R0
    obtain ⟨j, A, m, c, rfl, hmc, hjm, hrd, hbk, hkp, hwB, hob⟩ := hrel
    have HK := Lib.hid hkp
    have HBK := Lib.hid hbk
    have HRD := Lib.hid hrd
    have HOB := Lib.hid hob
    by_cases h64 : 64 ≤ m
    · obtain ⟨g, o, rfl, hcl⟩ := hrd.2 (by omega)
      have hl : Lies wr g o (bl (blockAt Y j)) := lies_block (X := []) (bs := Y) (j := 64 * j) (m := j) (n := m) (by simp) h64 (by rw [HYL.out]; omega) hcl
      have hs : Lies wr B 0 (wl (stN first Y j)) := Lies.of_blk hbk (by simp)
      have hro : ∀ k, Calls Tryd.prog 18 #[.agg (wl (stN first Y j)).toArray, .agg (bl (blockAt Y j)).toArray] (wr.drewN k) fun e w' => e = .returned (.agg (wl (stN first Y (j + 1))).toArray) ∧ Keeps (fun _ => False) wr w' :=
        fun k => (round_any (stN first Y j) (blockAt Y j) (blockAt_bytes HYB.out j) (wr.drewN k) (HG.out.keep hkp (fun _ h => h.elim)).1 (by have := (HG.out.keep hkp (fun _ h => h.elim)).lt; show 0 < wr.heap.size; omega)).mono fun e w' h => ⟨h.1, ((Keeps.refl _ wr).drewN k).trans (Keeps.of_below h.2) (fun _ _ h => h)⟩
      have harr := fun wx => run_arrayAt (P := Tryd.prog) wx 39 5 64 (some ⟨g, o, none⟩) m c Tryd.underlying39 h64
      have hcut := cut_l (P := Tryd.prog) Tryd.underlying26 (by kernel_rfl) (some ⟨g, o, none⟩) m c 64 64 rfl h64
      have hrd2 := hrd.cutA (l := 64) (c := c) h64 hmc
      have hob2 := hob.cutA (l := 64) (c := c) h64 hmc
      have HRD2 := Lib.hid hrd2
      have HOB2 := Lib.hid hob2
      have HL := Lib.hid hl
      have HSS := Lib.hid hs
      have HRO := Lib.hid hro
      obtain ⟨A1, hA1⟩ : ∃ A1, A1 = cutA (some ⟨g, o, none⟩) c 64 := ⟨_, rfl⟩
      rw [← hA1] at hcut HRD2 HOB2
      clear hrd hbk hkp hob hcl hl hs hro hrd2 hob2 hA1
      go_wp2
      refine wp_region_order [] [0, 1, 2, 3] 4 [5] (by kernel_rfl) (by kernel_rfl) (by intro _ _ d _ _ h; cases d <;> exact h) ?_
      simp only [pickOps, List.filterMap_cons, List.filterMap_nil, List.getElem?_cons_zero, List.getElem?_cons_succ]
      show wpQuiet _ _ _ _ [] _
      refine wpQuiet_nil ?_
      show wpQuiet _ _ _ _ [_, _, _, _] _
      refine wpQuiet_load_lies rfl 38 _ rfl 0 (wl (stN first Y j)) _ rfl HSS.out Tryd.underlying38 rfl info8 ?_
      simp only [Act.put, List.setIfInBounds_toArray, List.set_cons_succ, List.set_cons_zero]
      repeat (go_big_quiet_step (fail))
      refine wpQuiet_load_lies rfl 39 _ rfl o (bl (blockAt Y j)) _ rfl HL.out Tryd.underlying39 rfl info64 ?_
      simp only [Act.put, List.setIfInBounds_toArray, List.set_cons_succ, List.set_cons_zero]
      refine wpQuiet_nil ?_
      rintro _ ⟨nq, rfl⟩
      show wpList _ _ _ [_, _] _ _
      go_wp2_with (first | (go_at_call 18; refine (HRO.out nq).mono ?_; rintro e w' ⟨rfl, hkw⟩) | ((with_reducible show wpList _ _ _ (⟨none, Op.store 38 _ _, _, _, _, _⟩ :: _) _ _); refine wpList_store_whole rfl 38 _ _ rfl (wl (stN first Y (j + 1))) rfl rfl (hkw.blk HBK.out (fun h => h)) (by simp [wl]) info8 (by intro v hv; obtain ⟨i, _, rfl⟩ := List.mem_map.1 hv; rfl) ?_))
      go_roundw
      case rel =>
        have hkk := hkw.blk HBK.out (fun h => h)
        refine ⟨j + 1, A1, m - 64, c - 64, rfl, by omega, by omega, ?_, hkk.setRow _, (HK.out.trans hkw (fun _ _ h => h)).setRow (.inr hwB) _, hwB, HOB2.out⟩
        have e : (vb (Y.drop (64 * j))).drop 64 = vb (Y.drop (64 * (j + 1))) := by simp [vb, List.map_drop, List.drop_drop, Nat.mul_add]
        rw [← e]
        exact (HRD2.out.keep hkw (no_out _ _)).keep ((Keeps.refl (fun i => i = B) _).setRow (.inl rfl) _) HOB2.out
      case measure => simp [lenV]; omega
    · obtain rfl : m = 0 := by omega
      have hTj : Hid (vb (digB (stN first Y j)) = D) := Lib.hid (by
        rw [HD.out]
        unfold sumF
        rw [HN.out, Nat.mul_zero, Nat.zero_add, ← HY.out, ← HNE.out]
        rw [show N / 64 = j by omega])
      obtain ⟨T, hT⟩ : ∃ T, T = stN first Y j := ⟨_, rfl⟩
      rw [← hT] at hTj hbk
      have hl6 : Lies (wr.alloc (.cells (List.replicate 32 (Value.int .u8 0)).toArray 23)) B 0 (wl T) := Lies.of_blk (hbk.alloc _) (by simp)
      have HL6 := Lib.hid hl6
      have R1 : Hid (FoldsDig w wr.heap.size T 0 (wr.alloc (.cells (List.replicate 32 (Value.int .u8 0)).toArray 23))) := by
        refine ⟨?_, hkp.alloc _, hkp.size⟩
        rw [Nat.mul_zero, digL_zero]
        exact Blk.new wr _ _
      clear hrd hbk hkp hob hT hl6 HRD HBK HOB
      obtain ⟨E, hE⟩ : ∃ E, E = wr.heap.size := ⟨_, rfl⟩
      go_wp2_with ((with_reducible show wpList _ _ _ (⟨some _, Op.load 38 _, _, _, _, _⟩ :: _) _ _); refine wpList_load_lies rfl 38 _ rfl 0 (wl T) _ rfl HL6.out Tryd.underlying38 rfl info8 ?_)
      rw [← hE] at R1 ⊢
      clear hE HL6
      go_loopw [8, 9, 41] (fun _ _ i wx => ∃ t : Nat, t ≤ 8 ∧ i = .int .i64 t ∧ FoldsDig w E T t wx) (fun _ _ i _ => 8 - (intOf i).toNat)
      case atStart => exact ⟨0, by omega, rfl, R1.out⟩
      case round =>
        clear R1
        obtain ⟨t, ht, rfl, hr⟩ := hrel
        by_cases hlt : t < 8
        · have hix := fun wx => run_index_row (P := Tryd.prog) wx 38 37 8 (wl T).toArray .i64 t (.int .u32 (T t)) _ Tryd.underlying38 Tryd.underlying37 rfl (by kernel_rfl) hlt (by simp [wl, hlt])
          have cc : ∀ k, k < 4 → ∃ u, wr.cell? ⟨E, 4 * t + k, none⟩ = some u := by
            intro k hk
            rw [hr.1.cell]
            exact ⟨_, List.getElem?_eq_getElem (by simp [digL]; omega)⟩
          obtain ⟨u0, c0⟩ := cc 0 (by omega)
          obtain ⟨u1, c1⟩ := cc 1 (by omega)
          obtain ⟨u2, c2'⟩ := cc 2 (by omega)
          obtain ⟨u3, c3⟩ := cc 3 (by omega)
          rw [Nat.add_zero] at c0
          have f0 := hr.1.frozen (4 * t)
          have f1 := hr.1.frozen (4 * t + 1)
          have f2 := hr.1.frozen (4 * t + 2)
          have f3 := hr.1.frozen (4 * t + 3)
          have hstep := hr.step
          have e0 : dg T (4 * t) = T t / 16777216 % 256 := by unfold dg; rw [show 4 * t / 4 = t by omega, show 24 - 8 * (4 * t % 4) = 24 by omega]; rfl
          have e1 : dg T (4 * t + 1) = T t / 65536 % 256 := by unfold dg; rw [show (4 * t + 1) / 4 = t by omega, show 24 - 8 * ((4 * t + 1) % 4) = 16 by omega]; rfl
          have e2 : dg T (4 * t + 2) = T t / 256 % 256 := by unfold dg; rw [show (4 * t + 2) / 4 = t by omega, show 24 - 8 * ((4 * t + 2) % 4) = 8 by omega]; rfl
          have e3 : dg T (4 * t + 3) = T t % 256 := by unfold dg; rw [show (4 * t + 3) / 4 = t by omega, show 24 - 8 * ((4 * t + 3) % 4) = 0 by omega]; simp
          rw [e0, e1, e2, e3] at hstep
          have HST := Lib.hid hstep
          clear cc hstep e0 e1 e2 e3 hr
          go_wp2
          go_roundw
          case rel => exact ⟨t + 1, by omega, by go_num, HST.out⟩
          case measure => simp [intOf]; omega
        · obtain rfl : t = 8 := by omega
          obtain ⟨hbd, hkp2, hwE⟩ := hr
          rw [show 4 * 8 = 32 by rfl, digL_all, hTj.out] at hbd
          have HBD := Lib.hid hbd
          have HKP2 := Lib.hid hkp2
          have HSUM := Lib.hid (HSUMS.out wr.drew hkp2.drew)
          have HGR := Lib.hid (HG.out.keep hkp2 (fun _ h => h.elim))
          have U23 := Tryd.underlying23
          have heq := HEQ.out
          clear hbd hkp2
          go_wp2
          refine wp_region_held_drew (S := Keeps (fun _ => False) wr) (by kernel_rfl) (Keeps.refl _ _).drew (fun hHeld => ?_)
          refine wpAnyH_take (i := 0) (oi := ⟨some 72, _, _, _, _, _⟩) (v := _) rfl (by kernel_rfl) (by kernel_rfl) (by kernel_rfl) (fun _ _ _ h => h) (yieldsIf_load_mid (by rfl) _ _ rfl _ _ rfl D _ (fun w' h => range_blk (h.blk HBD.out (fun h => h))) U23 rfl HDI.out) hHeld ?_
          try simp only [Act.put, List.setIfInBounds_toArray]
          refine wpAnyH_take (i := 1) (oi := ⟨some 73, _, _, _, _, _⟩) (v := ?_) rfl (by kernel_rfl) (by kernel_rfl) (by kernel_rfl) (fun _ _ _ h => h) (Or.inl ⟨by rfl, ?_⟩) hHeld ?_
          rotate_left
          · intro w' hSw
            go_simp
            first | done | rfl
          try simp only [Act.put, List.setIfInBounds_toArray]
          refine wpAnyH_ready (rs := [2]) (by kernel_rfl) (by simp) ?_
          refine AllReadyH.cons (o := ⟨some 74, _, _, _, _, _⟩) rfl (fun K hK => ?_) AllReadyH.nil
          go_simp
          refine hK.out _ _ (hHeld.alloc _) (fun hHeld => ?_)
          clear hK K
          try simp only [Act.put, List.setIfInBounds_toArray]
          refine wpAnyH_ready (rs := [3]) (by kernel_rfl) (by simp) ?_
          refine AllReadyH.cons (o := ⟨some 75, _, _, _, _, _⟩) rfl (fun K hK => ?_) AllReadyH.nil
          go_simp
          refine HSUM.out.mono ?_
          rintro e w5 ⟨rfl, hk5⟩
          have hq5 := ((Keeps.refl (fun _ => False) wr).drew).trans hk5 (fun _ _ h => h)
          clear hk5
          show K _ w5
          refine hK.out _ _ hq5 (fun hHeld => ?_)
          clear hK K
          try simp only [Act.put, List.setIfInBounds_toArray]
          refine wpAnyH_take (i := 4) (oi := ⟨some 76, _, _, _, _, _⟩) (v := ?_) rfl (by kernel_rfl) (by kernel_rfl) (by kernel_rfl) (fun _ _ _ h => h) (Or.inl ⟨by rfl, ?_⟩) hHeld ?_
          rotate_left
          · intro w' hSw
            go_simp
            first | done | rfl
          try simp only [Act.put, List.setIfInBounds_toArray]
          refine wpAnyH_take (i := 5) (oi := ⟨some 77, _, _, _, _, _⟩) (v := ?_) rfl (by kernel_rfl) (by kernel_rfl) (by kernel_rfl) (fun _ _ _ h => h) (Or.inl ⟨by rfl, ?_⟩) hHeld ?_
          rotate_left
          · intro w' hSw
            go_simp
            first | done | rfl
          try simp only [Act.put, List.setIfInBounds_toArray]
          refine wpAnyH_ready (rs := [6]) (by kernel_rfl) (by simp) ?_
          refine AllReadyH.cons (o := ⟨some 78, _, _, _, _, _⟩) rfl (fun K hK => ?_) AllReadyH.nil
          go_simp
          refine (works_any _ (HGR.out.keep hHeld (fun _ h => h.elim))).mono ?_
          rintro e w6 ⟨rfl, hk6⟩
          have hq6 := hHeld.trans hk6 (fun _ _ h => h)
          clear hk6
          show K _ w6
          refine hK.out _ _ hq6 (fun hHeld => ?_)
          clear hK K
          try simp only [Act.put, List.setIfInBounds_toArray]
          refine wpAnyH_take (i := 7) (oi := ⟨some 79, _, _, _, _, _⟩) (v := ?_) rfl (by kernel_rfl) (by kernel_rfl) (by kernel_rfl) (fun _ _ _ h => h) (Or.inl ⟨by rfl, ?_⟩) hHeld ?_
          rotate_left
          · intro w' hSw
            go_simp
            first | done | rfl
          try simp only [Act.put, List.setIfInBounds_toArray]
          refine wpAnyH_take (i := 8) (oi := ⟨some 2, _, _, _, _, _⟩) (v := ?_) rfl (by kernel_rfl) (by kernel_rfl) (by kernel_rfl) (fun _ _ _ h => h) (Or.inl ⟨by rfl, ?_⟩) hHeld ?_
          rotate_left
          · intro w' hSw
            go_simp
            first | done | rfl
          try simp only [Act.put, List.setIfInBounds_toArray]
          refine wpAnyH_done (by kernel_rfl) ?_ _
          have HKF : Hid (Keeps (fun _ => False) w w6) := HKP2.out.trans hq6 (fun _ _ h => h)
          go_wp2
          go_ret
          exact ⟨rfl, HKF.out⟩
end Go.Proofs.YtgblndddcbfdiaaDoor
