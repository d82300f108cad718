/-
  WALKS: the reference's Sum and Of.
-/
import Derived.Test.YtknecjjdegngfaaDoorRWriteW
import Derived.Test.YtknecjjdegngfaaDoorQLast
set_option linter.unusedSimpArgs false
namespace Go.Proofs.YtknecjjdegngfaaDoor
open Go Go.RowKit Go.Sha Go.Aff

/-- While the digest (block M) is laid out; the hash lies at block P, the result's block is N. -/
def RSumRel (w : World) (P N M : Nat) (T : Nat → Int) (q : Int) (v : Value) (n : Nat) (wr : World) : Prop :=
  Blk wr P 117 (hcells T q v) ∧ Blk wr M 23 (digL T n) ∧ Blk wr N 23 (List.replicate 32 (Value.int .u8 0)) ∧ Keeps (fun _ => False) w wr ∧ w.heap.size ≤ N ∧ w.heap.size ≤ M ∧ N ≠ M ∧ P ≠ M

set_option maxHeartbeats 4000000 in
set_option maxRecDepth 100000 in
theorem rsum_any (w : World) (S : Nat → Int) (nb : Nat) (X : List Int) (A : Option Addr) (c : Nat) (hX : IsBytes X) (hA : Rd w A (X.length % 64) (vb (X.drop (64 * (X.length / 64))))) (hbig : 64 * nb + X.length < 2305843009213693952) :
    Calls Tryd.prog 76 #[rv S nb X (.slice A (X.length % 64) c)] w fun e w' => e = .returned (.agg (vb (sumF S nb X)).toArray) ∧ Keeps (fun _ => False) w w' := by
  obtain ⟨r, hrr⟩ : ∃ r, r = X.length % 64 := ⟨_, rfl⟩
  obtain ⟨cs, hcs⟩ : ∃ cs, cs = (hcells (stN S X (X.length / 64)) ((nb + X.length / 64 : Nat) : Int) (.slice A r c)).toArray := ⟨_, rfl⟩
  obtain ⟨csl, hcsl⟩ : ∃ csl, csl = hcells (stN S X (X.length / 64)) ((nb + X.length / 64 : Nat) : Int) (.slice A r c) := ⟨_, rfl⟩
  have hcc : cs = csl.toArray := by rw [hcs, hcsl]
  have hcl : csl.length = 10 := by rw [hcsl, hcells_length]
  obtain ⟨PL, hPL⟩ : ∃ PL, PL = padLen (64 * nb + X.length) := ⟨_, rfl⟩
  obtain ⟨PF, hPF⟩ : ∃ PF, PF = padF (64 * nb + X.length) := ⟨_, rfl⟩
  have hPLb : PL ≤ 72 := by rw [hPL]; exact (padLen_ge _).2
  have hPFL : PF.length = PL := by rw [hPF, hPL]; exact padK_length _ 8 (by omega)
  have hPFB : IsBytes PF := by rw [hPF]; exact padF_bytes _
  have hwh : (X ++ PF).length % 64 = 0 := by
    have := padLen_whole (64 * nb + X.length)
    rw [List.length_append, hPFL, hPL]; omega
  have hlq : (X ++ PF).length / 64 = (X.length + PL) / 64 := by rw [List.length_append, hPFL]
  obtain ⟨T', hT'⟩ : ∃ T', T' = stN S (X ++ PF) ((X.length + PL) / 64) := ⟨_, rfl⟩
  obtain ⟨q', hq'⟩ : ∃ q' : Nat, q' = nb + (X.length + PL) / 64 := ⟨_, rfl⟩
  obtain ⟨L, hL⟩ : ∃ L : Int, L = ((64 * nb + X.length : Nat) : Int) := ⟨_, rfl⟩
  have HLE : Hid (∀ W, Keeps (fun _ => False) w W → Calls Tryd.prog 92 #[.agg csl.toArray] W fun e w' => e = .returned (.int .u64 L) ∧ Keeps (fun _ => False) W w') := Lib.hid fun W _ => by
    rw [hcsl]
    refine (rlen_any W _ _ A r c (by omega) (by omega)).mono fun e w' hh => ⟨?_, hh.2⟩
    rw [hh.1, hL]
    congr 3
    omega
  have HPA : Hid (∀ W, Calls Tryd.prog 91 #[.int .u64 L] W fun e w' => ∃ A c, e = .returned (.slice A PL c) ∧ w'.ownsRow 0 5 1 (.slice A PL c) PL (vb PF) ∧ Keeps (fun _ => False) W w' ∧ ∀ g, (Value.slice A PL c).ownBlock = some g → W.heap.size ≤ g) := Lib.hid fun W => by
    rw [hL, hPL, hPF]
    exact rpad_any W (64 * nb + X.length) hbig
  have HWR : Hid (∀ (W : World) A3 c3, Keeps (fun _ => False) w W → W.ownsRow 0 5 1 (.slice A3 PL c3) PL (vb PF) → Calls Tryd.prog 75 #[.agg csl.toArray, .slice A3 PL c3] W fun e w' => ∃ A4 c4, e = .returned (.agg (hcells T' q' (.slice A4 0 c4)).toArray) ∧ Keeps (fun _ => False) W w') := Lib.hid fun W A3 c3 hk ho => by
    have hr3 := Rd.of_own ho
    rw [← hPFL] at hr3 ⊢
    have := rwrite_any W S nb X A c hX (hA.keep hk (no_out _ _)) A3 c3 PF hr3 hPFB (by omega)
    unfold rv at this
    rw [← hrr, ← hcsl] at this
    refine this.mono fun e w' ⟨v, he, ho4, hk4, _⟩ => ?_
    rw [hwh] at ho4
    obtain ⟨A4, c4, rfl⟩ := own_shape ho4
    refine ⟨A4, c4, ?_, hk4⟩
    rw [he, hlq, hT', hq']
  unfold rv
  rw [← hrr, ← hcs]
  have HIN : Hid ((Tryd.prog.info? 117).map (·.size) = some csl.length) := Lib.hid (by rw [hcl]; kernel_rfl)
  have hb1 := (Blk.new w 117 csl).alloc (.cells (List.replicate 32 (Value.int .u8 0)).toArray 23)
  have hb2 := Blk.new (w.alloc (.cells csl.toArray 117)) 23 (List.replicate 32 (Value.int .u8 0))
  rw [World.size_alloc] at hb2
  rw [← hcc] at hb1 hb2
  have HB1 : Hid (∀ W, Keeps (fun _ => False) ((w.alloc (.cells cs 117)).alloc (.cells (List.replicate 32 (Value.int .u8 0)).toArray 23)) W → Blk W w.heap.size 117 csl) := Lib.hid fun W hk => hk.blk hb1 (fun h => h)
  have HRG : Hid (∀ W, Keeps (fun _ => False) ((w.alloc (.cells cs 117)).alloc (.cells (List.replicate 32 (Value.int .u8 0)).toArray 23)) W → W.rangeAt w.heap.size 0 csl) := Lib.hid fun W hk j v hv => by rw [Nat.zero_add, (HB1.out W hk).cell, hv]
  have HB2 : Hid (∀ W, Keeps (fun _ => False) ((w.alloc (.cells cs 117)).alloc (.cells (List.replicate 32 (Value.int .u8 0)).toArray 23)) W → Blk W (w.heap.size + 1) 23 (List.replicate 32 (Value.int .u8 0))) := Lib.hid fun W hk => hk.blk hb2 (fun h => h)
  have HKW : Hid (Keeps (fun _ => False) w ((w.alloc (.cells cs 117)).alloc (.cells (List.replicate 32 (Value.int .u8 0)).toArray 23))) := Lib.hid (((Keeps.refl _ w).alloc _).alloc _)
  have HCL := Lib.hid hcl
  have HFIN : Hid (digB T' = sumF S nb X) := Lib.hid (by rw [hT', hPF, hPL]; rfl)
  clear hb1 hb2 hcs hcsl hPL hPF hPFL hPFB hwh hlq hT' hq' hL hX hA hbig hrr hcl hcc
  go_enter Tryd.func76, Tryd.ntmps76
  go_wp2
  have hkw := HKW.out
  refine wp_region_last (S := Keeps (fun _ => False) ((w.alloc (.cells cs 117)).alloc (.cells (List.replicate 32 (Value.int .u8 0)).toArray 23))) 5 (by kernel_rfl) ((Keeps.refl (fun _ => False) _).drew) (fun hHeld => ?_)
  refine wpAnyZ_take (i := 0) (oi := ⟨some 5, _, _, _, _, _⟩) (v := _) rfl (by kernel_rfl) (by kernel_rfl) (by kernel_rfl) (by kernel_rfl) (fun _ _ _ h => h) (yieldsIf_load_mid (by rfl) _ _ rfl _ _ rfl csl _ (fun w' h => HRG.out _ h) Tryd.underlying117 rfl HIN.out) hHeld ?_
  try simp only [Act.put, List.setIfInBounds_toArray, List.set_cons_zero, List.set_cons_succ]
  refine wpAnyZ_take (i := 1) (oi := ⟨some 6, _, _, _, _, _⟩) (v := _) rfl (by kernel_rfl) (by kernel_rfl) (by kernel_rfl) (by kernel_rfl) (fun _ _ _ h => h) (yieldsIf_load_mid (by rfl) _ _ rfl _ _ rfl csl _ (fun w' h => HRG.out _ h) Tryd.underlying117 rfl HIN.out) hHeld ?_
  try simp only [Act.put, List.setIfInBounds_toArray, List.set_cons_zero, List.set_cons_succ]
  refine wpAnyZ_step (i := 2) (o := ⟨some 7, _, _, _, _, _⟩) (by kernel_rfl) rfl (fun K hK => ?_)
  go_simp
  refine (HLE.out _ (hkw.trans hHeld (fun _ _ h => h))).mono ?_
  rintro e w2 ⟨rfl, hk2⟩
  have hq2 := hHeld.trans hk2 (fun _ _ h => h)
  show K _ w2
  refine hK.out _ _ hq2 (fun hHeld => ?_)
  clear hK K
  try simp only [Act.put, List.setIfInBounds_toArray, List.set_cons_zero, List.set_cons_succ]
  refine wpAnyZ_step (i := 3) (o := ⟨some 8, _, _, _, _, _⟩) (by kernel_rfl) rfl (fun K hK => ?_)
  go_simp
  refine (HPA.out _).mono ?_
  rintro e w3 ⟨A3, c3, rfl, ho3, hk3, hg3⟩
  have hq3 := hHeld.trans hk3 (fun _ _ h => h)
  show K _ w3
  refine hK.out _ _ hq3 (fun hHeld => ?_)
  clear hK K
  try simp only [Act.put, List.setIfInBounds_toArray, List.set_cons_zero, List.set_cons_succ]
  refine wpAnyZ_step (i := 4) (o := ⟨some 9, _, _, _, _, _⟩) (by kernel_rfl) rfl (fun K hK => ?_)
  go_simp
  refine (HWR.out _ _ _ (hkw.trans hHeld (fun _ _ h => h)) ho3).mono ?_
  rintro e w4 ⟨A4, c4, rfl, hk4⟩
  have hq4 := hHeld.trans hk4 (fun _ _ h => h)
  show K _ w4
  refine hK.out _ _ hq4 (fun hHeld => ?_)
  clear hK K
  try simp only [Act.put, List.setIfInBounds_toArray, List.set_cons_zero, List.set_cons_succ]
  refine wpAnyZ_last (o := ⟨none, _, _, _, _, _⟩) (by kernel_rfl) (by kernel_rfl) rfl (fun K hK => ?_)
  refine stepH_store rfl 117 _ _ rfl (hcells T' q' (.slice A4 0 c4)) rfl rfl (HB1.out _ hq4) (by rw [HCL.out, hcells_length]) (by rw [hcells_length]; kernel_rfl) (hcells_one T' q' _ _ _) ?_
  refine hK.out _ _ ?_
  clear hK K
  try simp only [Act.put, List.setIfInBounds_toArray, List.set_cons_zero, List.set_cons_succ]
  have hb4 := (HB1.out _ hq4).setRow (hcells T' q' (.slice A4 0 c4))
  have hz4 := (HB2.out _ hq4).setRow_far (show w.heap.size + 1 ≠ w.heap.size by omega) (hcells T' q' (.slice A4 0 c4)).toArray
  have hk5 := (hkw.trans hq4 (fun _ _ h => h)).setRow (.inr (Nat.le_refl _)) (hcells T' q' (.slice A4 0 c4)).toArray
  generalize w4.setRow w.heap.size (hcells T' q' (.slice A4 0 c4)).toArray = W5 at hb4 hz4 hk5 ⊢
  have R0 : Hid (RSumRel w w.heap.size (w.heap.size + 1) W5.heap.size T' q' (.slice A4 0 c4) 0 (W5.alloc (.cells (List.replicate 32 (Value.int .u8 0)).toArray 23))) := by
    refine Lib.hid ⟨hb4.alloc _, ?_, hz4.alloc _, hk5.alloc _, by omega, ?_, ?_, ?_⟩
    · rw [digL_zero]; exact Blk.new _ _ _
    · have := hz4.lt; omega
    · have := hz4.lt; omega
    · have := hb4.lt; omega
  have hM : w.heap.size + 1 < W5.heap.size := hz4.lt
  clear hb4 hz4 hk5 hq4 hq3 hq2 hk2 hk3 hk4 ho3 hg3 hkw
  go_wp2
  go_loopw [4] (fun i wr => ∃ n : Nat, n ≤ 32 ∧ i = .int .i64 n ∧ RSumRel w w.heap.size (w.heap.size + 1) W5.heap.size T' q' (.slice A4 0 c4) n wr) (fun i _ => 32 - (intOf i).toNat)
  case atStart => exact ⟨0, by omega, rfl, R0.out⟩
  case round =>
    clear R0
    obtain ⟨n, hn, rfl, hr⟩ := hrel
    have HR := Lib.hid hr
    clear hr
    by_cases hlt : n < 32
    · obtain ⟨x, hx⟩ : ∃ x, x = T' (n / 4) := ⟨_, rfl⟩
      have yt : wr.cell? ⟨w.heap.size, n / 4, none⟩ = some (.int .u32 x) := by
        rw [HR.out.1.cell, hx]
        have h8 : n / 4 < 8 := by omega
        simp [hcells, wl, h8, List.getElem?_append]
      have yo : wr.cell? ⟨W5.heap.size, n, none⟩ = some (.int .u8 0) := by
        rw [HR.out.2.1.cell]; simp [digL, hlt]
      have yf := HR.out.2.1.frozen n
      have hq4 : ((n : Int) / 4).toNat = n / 4 := by omega
      have hm4 : 0 ≤ 24 - 8 * ((n : Int) % 4) := by omega
      have hd4 : (n : Int) / 4 < 8 := by omega
      have HX := Lib.hid hx
      clear hx
      go_wp2
      go_roundw
      case rel =>
        obtain ⟨h1, h2, h3, h4, h5, h6, h7, h8⟩ := HR.out
        refine ⟨n + 1, by omega, by go_num, h1.far (by show w.heap.size ≠ W5.heap.size; omega) _, ?_, h3.far (by show w.heap.size + 1 ≠ W5.heap.size; omega) _, h4.setCell (.inr h6) _, h5, h6, h7, h8⟩
        have := h2.set_ n (.int .u8 (dg T' n))
        rw [digL_set] at this
        have e : x / 2 ^ (24 - 8 * (n % 4)) % 256 = dg T' n := by unfold dg; rw [HX.out]
        rw [← e] at this
        exact this
      case measure => simp [intOf]; omega
    · obtain rfl : n = 32 := by omega
      have h2 := HR.out.2.1
      have h3 := HR.out.2.2.1
      go_wp2_with (first | ((with_reducible show wpList _ _ _ (⟨some _, Op.load 23 _, _, _, _, _⟩ :: _) _ _); refine wpList_load_whole rfl 23 _ rfl _ rfl h2 Tryd.underlying23 rfl (by kernel_rfl) ?_) | ((with_reducible show wpList _ _ _ (⟨none, Op.store 23 _ _, _, _, _, _⟩ :: _) _ _); refine wpList_store_whole rfl 23 _ _ rfl (digL T' 32) rfl rfl h3 (by simp [digL]) (by kernel_rfl) (by intro v hv; obtain ⟨i, _, rfl⟩ := List.mem_map.1 hv; rfl) ?_))
      refine bodyPost_ret (results_blk rfl _ _ rfl (h3.setRow (digL T' 32)) Tryd.underlying23 rfl (by kernel_rfl)) rfl ⟨?_, HR.out.2.2.2.1.setRow (.inr (by omega)) _⟩
      rw [digL_all, HFIN.out]

set_option maxHeartbeats 1000000 in
set_option maxRecDepth 100000 in
theorem rof_any (w : World) (B : Option Addr) (n cb : Nat) (bs : List Int) (hn : bs.length = n) (hr : Rd w B n (vb bs)) (hbs : IsBytes bs) (hbig : n < 2305843009213693952) :
    Calls Tryd.prog 43 #[.slice B n cb] w fun e w' => e = .returned (.agg (vb (sumF first 0 bs)).toArray) ∧ Keeps (fun _ => False) w w' := by
  have hz := Blk.new w 23 (List.replicate 32 (Value.int .u8 0))
  have HNW : Hid (∀ W, Calls Tryd.prog 74 #[] W fun e w' => e = .returned (rv first 0 [] (.slice none 0 0)) ∧ Keeps (fun _ => False) W w') := Lib.hid fun W => rnew_any W
  have HWR : Hid (∀ W, Keeps (fun _ => False) w W → Calls Tryd.prog 75 #[rv first 0 [] (.slice none 0 0), .slice B n cb] W fun e w' => ∃ A c, e = .returned (rv first 0 bs (.slice A (bs.length % 64) c)) ∧ w'.ownsRow 0 5 1 (.slice A (bs.length % 64) c) (bs.length % 64) (vb (bs.drop (64 * (bs.length / 64)))) ∧ Keeps (fun _ => False) W w') := Lib.hid fun W hk => by
    rw [← hn] at hr ⊢
    refine (rwrite_any W first 0 [] none 0 (fun x hx => by cases hx) (Rd.nil _ _) B cb bs (hr.keep hk (no_out _ _)) hbs (by simp; omega)).mono ?_
    rintro e w' ⟨v, he, ho, hk, _⟩
    rw [List.nil_append] at he ho
    obtain ⟨A, c, rfl⟩ := own_shape ho
    exact ⟨A, c, he, ho, hk⟩
  have HSU : Hid (∀ W A c, W.ownsRow 0 5 1 (.slice A (bs.length % 64) c) (bs.length % 64) (vb (bs.drop (64 * (bs.length / 64)))) → Calls Tryd.prog 76 #[rv first 0 bs (.slice A (bs.length % 64) c)] W fun e w' => e = .returned (.agg (vb (sumF first 0 bs)).toArray) ∧ Keeps (fun _ => False) W w') := Lib.hid fun W A c ho =>
    rsum_any W first 0 bs A c hbs (Rd.of_own ho) (by omega)
  obtain ⟨R1, hR1⟩ : ∃ R1, R1 = rv first 0 [] (.slice none 0 0) := ⟨_, rfl⟩
  obtain ⟨R2, hR2⟩ : ∃ R2 : Option Addr → Nat → Value, R2 = fun A c => rv first 0 bs (.slice A (bs.length % 64) c) := ⟨_, rfl⟩
  have hR2' : ∀ A c, rv first 0 bs (.slice A (bs.length % 64) c) = R2 A c := fun A c => by rw [hR2]
  obtain ⟨D, hD⟩ : ∃ D, D = sumF first 0 bs := ⟨_, rfl⟩
  have hDl : D.length = 32 := by rw [hD, sumF_length]
  rw [← hR1] at HNW HWR
  simp only [hR2'] at HWR HSU
  rw [← hD] at HSU ⊢
  have HZ := Lib.hid hz
  have HDL := Lib.hid hDl
  clear hz hDl hR1 hR2 hR2' hD hn hr hbs hbig
  go_enter Tryd.func43, Tryd.ntmps43
  go_wp2_with (first
    | (go_at_call 74; refine (HNW.out _).mono ?_; rintro e w1 ⟨rfl, hk1⟩)
    | (go_at_call 75; refine (HWR.out _ (((Keeps.refl _ w).alloc _).trans hk1 (fun _ _ h => h))).mono ?_; rintro e w2 ⟨A2, c2, rfl, ho2, hk2⟩)
    | (go_at_call 76; refine (HSU.out _ _ _ ho2).mono ?_; rintro e w3 ⟨rfl, hk3⟩; have hz3 := hk3.blk (hk2.blk (hk1.blk HZ.out (fun h => h)) (fun h => h)) (fun h => h); have HZ3 := Lib.hid hz3; clear hz3)
    | ((with_reducible show wpList _ _ _ (⟨none, Op.store 23 _ _, _, _, _, _⟩ :: _) _ _); refine wpList_store_whole rfl 23 _ _ rfl (vb D) rfl rfl HZ3.out (by simp [vb, HDL.out]) (by rw [show (vb D).length = 32 by simp [vb, HDL.out]]; kernel_rfl) (vb_one _) ?_))
  refine bodyPost_ret (results_blk rfl _ _ rfl (HZ3.out.setRow (vb D)) Tryd.underlying23 rfl (by rw [show (vb D).length = 32 by simp [vb, HDL.out]]; kernel_rfl)) rfl ⟨rfl, ?_⟩
  exact (((((Keeps.refl _ w).alloc _).trans hk1 (fun _ _ h => h)).trans hk2 (fun _ _ h => h)).trans hk3 (fun _ _ h => h)).setRow (.inr (Nat.le_refl _)) _
end Go.Proofs.YtknecjjdegngfaaDoor
