/-
  Texts put together: IsW.
-/
import Derived.Test.YtdmcioghdindfaaGreatQ25
import Derived.Test.YtdmcioghdindfaaGreatQ03
set_option linter.unusedSimpArgs false
namespace Go.Proofs.YtdmcioghdindfaaGreat
open Go Go.RowKit Go.Aff Go.Json
theorem step_range {T : TypeId} {w0 w : World} {A : Option Addr} {n c : Nat} {sss : List (List Value)} {D : Nat → Prop} {l : List StepV} {i : Nat} (hm : MineS 6 w0 w T A n c sss.flatten) (hs : SList D w sss l) (hi : i < n) (hl : l.length = n) :
  ∃ g o s B d, A = some ⟨g, o, none⟩ ∧ l[i]? = some s ∧ w.rangeAt g (o + i * 6) (stepV s B d) ∧ Rd w B s.keys.length (s.keys.map .string) := by
 obtain ⟨g, o, e, hc⟩ := (MineS.rdS hm).2 (by omega)
 obtain ⟨s, hsl⟩ : ∃ s, l[i]? = some s := ⟨_, List.getElem?_eq_getElem (by omega)⟩
 obtain ⟨cs, hcs⟩ : ∃ cs, sss[i]? = some cs := ⟨_, List.getElem?_eq_getElem (by rw [hs.1]; omega)⟩
 obtain ⟨B, d, e2, hr⟩ := hs.2 i cs s hcs hsl
 refine ⟨g, o, s, B, d, e, hsl, ?_, hr.1⟩
 rw [← e2]
 exact item_range hc hi hs.six hcs
theorem steps_keys {j : JV} (h : JOk j) : ∀ s ∈ j.steps, s.keys.length ≤ j.nodes := by
 induction h with
 | mk j h1 h2 hp hr ht h ih =>
  intro s hs
  rw [JV.steps_eq] at hs
  rcases List.mem_append.1 hs with hs | hs
  ·obtain ⟨l, hl, hs⟩ := List.mem_flatten.1 hs
   obtain ⟨x, hx, rfl⟩ := List.mem_map.1 hl
   exact Nat.le_trans (ih x hx s hs) (item_nodes hx)
  ·rw [List.mem_singleton.1 hs, last_keys]
   have := items_nodes j
   omega
structure TwoSt (w W : World) (p8 p9 : Nat) (SC SD : List Value) : Prop where
 keep : Keeps (fun _ => False) w W
 b8 : Blk W p8 44 SC
 b9 : Blk W p9 47 SD
set_option maxHeartbeats 4000000 in
set_option maxRecDepth 100000 in
theorem is_same {D E : Nat → Prop} (w : World) (q : Nat) (v : Value) (rv : List Value) (j : JV) (ht : TreeAt D w q v j) (hr : RAt E w rv j) (hok : JOk j) (hn : j.nodes ≤ 1099511627776) :
  Calls Tryz.prog 8 #[.pointer (some ⟨q, 0, none⟩), .agg rv.toArray] w fun e w' => e = .returned (.bool true) ∧ Keeps (fun _ => False) w w' := by
 have HB0 := Lib.hid (Boxed.made w 29 rv)
 have HSI : Hid ((Tryz.prog.info? 29).map (·.size) = some rv.length) := Lib.hid (by rw [hr.len]; kernel_rfl)
 obtain ⟨n, hnn⟩ : ∃ n, n = j.steps.length := ⟨_, rfl⟩
 have HN : Hid (n = j.steps.length ∧ n ≤ 1099511627776) := Lib.hid ⟨hnn, by rw [hnn, steps_len]; exact hn⟩
 have HSK : Hid (∀ s ∈ j.steps, s.keys.length ≤ 1099511627776) := Lib.hid fun s hs => Nat.le_trans (steps_keys hok s hs) hn
 have HC1 : Hid (∀ W, Keeps (fun _ => False) w W → Calls Tryz.prog 20 #[.pointer (some ⟨q, 0, none⟩)] W fun e w' => ∃ A c sss, e = .returned (.slice A n c) ∧ Hid (MineS 6 W w' 44 A n c sss.flatten ∧ ∃ D, SList D w' sss j.steps)) := Lib.hid fun W hW => by
  refine (tsteps_any W q v j (ht.stay hW) hok hn).mono ?_
  rintro e w' ⟨A, c, sss, he, h1, h2⟩
  rw [← hnn] at he h1
  exact ⟨A, c, sss, he, Lib.hid ⟨h1, _, h2⟩⟩
 have HC2 : Hid (∀ W, Keeps (fun _ => False) w W → Calls Tryz.prog 21 #[.agg rv.toArray] W fun e w' => ∃ A c sss, e = .returned (.slice A n c) ∧ Hid (MineS 6 W w' 47 A n c sss.flatten ∧ ∃ D, SList D w' sss j.steps)) := Lib.hid fun W hW => by
  refine (rsteps_any W rv j (hr.stay hW) hn).mono ?_
  rintro e w' ⟨A, c, sss, he, h1, h2⟩
  rw [← hnn] at he h1
  exact ⟨A, c, sss, he, Lib.hid ⟨h1, _, h2⟩⟩
 clear ht hr hok hn hnn
 go_enter Tryz.func8, Tryz.ntmps8
 go_upto_region 3 with fail
 obtain ⟨b, hb⟩ : ∃ b, b = w.heap.size := ⟨_, rfl⟩
 rw [← hb] at HB0 ⊢
 refine gen_codeF (fun W => Boxed w W b 29 rv) HB0.out ?_
 intro w1 hb1
 have HB1 := Lib.hid hb1
 clear hb1 HB0 hb
 refine wp_region_held_drew (S := fun W => Boxed w W b 29 rv) (by kernel_rfl) (HB1.out.stay (Keeps.refl _ _).drew) (fun hHeld => ?_)
 refine tH (i := 0) (oi := ⟨some 13, _, _, _, _, _⟩) (v := ?_) rfl (Or.inl ⟨by rfl, ?_⟩) hHeld ?_
 rotate_left
 ·intro w' hSw
  go_simp
  first | done | rfl
 try simp only [pu]
 refine tH (i := 2) (oi := ⟨some 15, _, _, _, _, _⟩) (v := _) rfl (yieldsIf_load_mid (by rfl) _ _ rfl _ _ rfl rv _ (fun w' h => blk_range h.blk) Tryz.underlying29 rfl HSI.out) hHeld ?_
 try simp only [pu]
 refine wpAnyH_ready (rs := [1]) (by kernel_rfl) (by simp) ?_
 refine AllReadyH.cons (o := ⟨some 14, _, _, _, _, _⟩) rfl (fun K hK => ?_) AllReadyH.nil
 go_simp
 refine (HC1.out _ hHeld.keep).mono ?_
 rintro e w2 ⟨A1, c1, sss1, rfl, HM1⟩
 have hqq := hHeld.stay HM1.out.1.2.1
 refine hK.out _ _ hqq (fun hHeld => ?_)
 clear hK K
 try simp only [pu]
 refine wpAnyH_ready (rs := [3]) (by kernel_rfl) (by simp) ?_
 refine AllReadyH.cons (o := ⟨some 16, _, _, _, _, _⟩) rfl (fun K hK => ?_) AllReadyH.nil
 go_simp
 refine (HC2.out _ hHeld.keep).mono ?_
 rintro e w3 ⟨A2, c2, sss2, rfl, HM2⟩
 have hqq2 := hHeld.stay HM2.out.1.2.1
 refine hK.out _ _ hqq2 (fun hHeld => ?_)
 clear hK K
 try simp only [pu]
 refine tH (i := 4) (oi := ⟨some 5, _, _, _, _, _⟩) (v := ?_) rfl (Or.inl ⟨by rfl, ?_⟩) hHeld ?_
 rotate_left
 ·intro w' hSw
  go_simp
  first | done | rfl
 try simp only [pu]
 refine tH (i := 5) (oi := ⟨some 6, _, _, _, _, _⟩) (v := ?_) rfl (Or.inl ⟨by rfl, ?_⟩) hHeld ?_
 rotate_left
 ·intro w' hSw
  go_simp
  first | done | rfl
 try simp only [pu]
 refine wpAnyH_done (by kernel_rfl) ?_ _
 have HK3 := Lib.hid hHeld.keep
 have HM3 : Hid (MineS 6 w w3 44 A1 n c1 sss1.flatten ∧ ∃ D, SList D w3 sss1 j.steps) := Lib.hid (by
  obtain ⟨h1, D, h2⟩ := HM1.out
  have hk := HM2.out.1.2.1
  exact ⟨⟨hk.own h1.1 (fun _ _ h => h), hHeld.keep, fun g hg => Nat.le_trans HB1.out.keep.size (h1.2.2 g hg)⟩, D, h2.stay hk⟩)
 clear hHeld HM1 hqq hqq2 HC1 HC2 HB1
 go_upto_block 0 with fail
 go_wp2
 go_loopg [7] n (fun gk t wx => ∃ (i : Nat), i ≤ n ∧ t = .int .i64 i ∧ gk = n - i ∧ Hid (Keeps (fun _ => False) w3 wx))
 case atStart => exact ⟨0, by omega, rfl, rfl, Lib.hid (Keeps.refl _ _)⟩
 case round =>
  obtain ⟨i, hin, rfl, hgk, HKX⟩ := hrel
  have HGK := Lib.hid hgk
  clear hgk
  by_cases hlt : i < n
  ·have HST : Hid (∀ W, Keeps (fun _ => False) w3 W → ∃ g o s B d g2 o2 B2 d2, A1 = some ⟨g, o, none⟩ ∧ A2 = some ⟨g2, o2, none⟩ ∧ j.steps[i]? = some s ∧ W.rangeAt g (o + i * 6) (stepV s B d) ∧ Rd W B s.keys.length (s.keys.map .string) ∧ W.rangeAt g2 (o2 + i * 6) (stepV s B2 d2) ∧ Rd W B2 s.keys.length (s.keys.map .string)) := Lib.hid fun W hW => by
    obtain ⟨h1, D1, s1⟩ := HM3.out
    obtain ⟨h2, D2, s2⟩ := HM2.out
    obtain ⟨g, o, s, B, d, e1, e2, e3, e4⟩ := step_range (h1.keep hW) (s1.stay hW) hlt HN.out.1.symm
    obtain ⟨g2, o2, s', B2, d2, f1, f2, f3, f4⟩ := step_range (h2.keep hW) (s2.stay hW) hlt HN.out.1.symm
    rw [e2] at f2
    injection f2 with f2
    subst f2
    exact ⟨g, o, s, B, d, g2, o2, B2, d2, e1, f1, e2, e3, e4, f3, f4⟩
   obtain ⟨g, o, s, B, d, g2, o2, B2, d2, hA1, hA2, hsi, hc1, hk1, hc2, hk2⟩ := HST.out wr HKX.out
   subst hA1 hA2
   have hkb := HSK.out s (List.mem_of_getElem? hsi)
   have hnb := HN.out.2
   clear hsi
   obtain ⟨SC, hSC⟩ : ∃ SC, SC = stepV s B d := ⟨_, rfl⟩
   obtain ⟨SD, hSD⟩ : ∃ SD, SD = stepV s B2 d2 := ⟨_, rfl⟩
   rw [← hSC] at hc1
   rw [← hSD] at hc2
   have HCC := Lib.hid (And.intro hc1 hc2)
   have HKK := Lib.hid (And.intro hk1 hk2)
   have HSC := Lib.hid hSC
   have HSD := Lib.hid hSD
   have HSL : Hid (SC.length = 6 ∧ SD.length = 6) := Lib.hid (by rw [hSC, hSD]; exact ⟨rfl, rfl⟩)
   have HI8 : Hid ((Tryz.prog.info? 44).map (·.size) = some SC.length) := Lib.hid (by rw [HSL.out.1]; kernel_rfl)
   have HI9 : Hid ((Tryz.prog.info? 47).map (·.size) = some SD.length) := Lib.hid (by rw [HSL.out.2]; kernel_rfl)
   have HSO : Hid ((∀ u ∈ SC, u.oneCell' = true) ∧ ∀ u ∈ SD, u.oneCell' = true) := Lib.hid (by rw [hSC, hSD]; exact ⟨stepV_one _ _ _, stepV_one _ _ _⟩)
   have hi0 : (0 : Int) ≤ (i : Int) := by omega
   have hiN : (i : Int) < (n : Int) := by omega
   clear hc1 hc2 hk1 hk2 hSC hSD
   go_upto_region 9 with fail
   go_cut [8, 9] (fun t u wx => ∃ p8 p9 : Nat, t = .pointer (some ⟨p8, 0, none⟩) ∧ u = .pointer (some ⟨p9, 0, none⟩) ∧ Hid (TwoSt wr wx p8 p9 SC SD))
   case first =>
    refine wp_region_held_drew (S := Keeps (fun _ => False) wr) (by kernel_rfl) (Keeps.refl _ _).drew (fun hHeld => ?_)
    refine tH (i := 0) (oi := ⟨some 28, _, _, _, _, _⟩) (v := ?_) rfl (Or.inl ⟨by rfl, ?_⟩) hHeld ?_
    rotate_left
    ·intro w' hSw
     go_simp
     first | done | rfl
    try simp only [pu]
    refine tH (i := 1) (oi := ⟨some 29, _, _, _, _, _⟩) (v := ?_) rfl (Or.inl ⟨by rfl, ?_⟩) hHeld ?_
    rotate_left
    ·intro w' hSw
     go_simp
     first | done | rfl
    try simp only [pu]
    refine tH (i := 2) (oi := ⟨some 30, _, _, _, _, _⟩) (v := ?_) rfl (Or.inl ⟨by rfl, ?_⟩) hHeld ?_
    rotate_left
    ·intro w' hSw
     go_simp
     first | done | rfl
    try simp only [pu]
    refine tH (i := 3) (oi := ⟨some 31, _, _, _, _, _⟩) (v := _) rfl (yieldsIf_load_mid (by rfl) _ _ rfl _ _ rfl SC _ (fun w' h => fun j v hv => cell_keep h (HCC.out.1 j v hv)) Tryz.underlying44 rfl HI8.out) hHeld ?_
    try simp only [pu]
    refine tH (i := 4) (oi := ⟨some 32, _, _, _, _, _⟩) (v := ?_) rfl (Or.inl ⟨by rfl, ?_⟩) hHeld ?_
    rotate_left
    ·intro w' hSw
     go_simp
     first | done | rfl
    try simp only [pu]
    refine tH (i := 5) (oi := ⟨some 33, _, _, _, _, _⟩) (v := ?_) rfl (Or.inl ⟨by rfl, ?_⟩) hHeld ?_
    rotate_left
    ·intro w' hSw
     go_simp
     first | done | rfl
    try simp only [pu]
    refine tH (i := 6) (oi := ⟨some 34, _, _, _, _, _⟩) (v := ?_) rfl (Or.inl ⟨by rfl, ?_⟩) hHeld ?_
    rotate_left
    ·intro w' hSw
     go_simp
     first | done | rfl
    try simp only [pu]
    refine tH (i := 7) (oi := ⟨some 35, _, _, _, _, _⟩) (v := _) rfl (yieldsIf_load_mid (by rfl) _ _ rfl _ _ rfl SD _ (fun w' h => fun j v hv => cell_keep h (HCC.out.2 j v hv)) Tryz.underlying47 rfl HI9.out) hHeld ?_
    try simp only [pu]
    refine wpAnyH_ready (rs := [8, 9]) (by kernel_rfl) (by simp) ?_
    refine (AllReadyH.cons (o := ⟨some 8, _, _, _, _, _⟩) rfl (fun K hK => ?_) (AllReadyH.cons (o := ⟨some 9, _, _, _, _, _⟩) rfl (fun K hK => ?_) AllReadyH.nil))
    ·go_simp
     refine gen_KA (fun V => Keeps (fun _ => False) wr.drew V ∧ Blk V wr.drew.heap.size 44 [Value.int .i64 0, .bool false, .int .u64 0, .string .empty, .int .i64 0, .slice none 0 0]) ⟨(Keeps.refl _ _).alloc _, Blk.new _ _ _⟩ ?_
     rintro v8 ⟨k8, b88⟩
     have lo88 := hHeld.size
     have h8 := hHeld.trans k8 (fun _ _ h => h)
     refine hK.out _ _ h8 (fun hHeld => ?_)
     clear hK K
     try simp only [pu]
     refine wpAnyH_ready (rs := [9]) (by kernel_rfl) (by simp) ?_
     refine (AllReadyH.cons (o := ⟨some 9, _, _, _, _, _⟩) rfl (fun K hK => ?_) AllReadyH.nil)
     go_simp
     refine gen_KA (fun V => Keeps (fun _ => False) v8 V ∧ Blk V v8.heap.size 47 [Value.int .i64 0, .bool false, .int .u64 0, .string .empty, .int .i64 0, .slice none 0 0]) ⟨(Keeps.refl _ _).alloc _, Blk.new _ _ _⟩ ?_
     rintro v8_9 ⟨k8_9, b98_9⟩
     have b88_9 := k8_9.blk b88 (fun h => h)
     have lo98_9 := hHeld.size
     have h8_9 := hHeld.trans k8_9 (fun _ _ h => h)
     refine hK.out _ _ h8_9 (fun hHeld => ?_)
     clear hK K
     try simp only [pu]
     refine wpAnyH_ready (rs := [10]) (by kernel_rfl) (by simp) ?_
     refine (AllReadyH.cons (o := ⟨none, _, _, _, _, _⟩) rfl (fun K hK => ?_) AllReadyH.nil)
     skip
     refine step_store_whole rfl 44 (.tmp 8) (.tmp 31) rfl SC rfl rfl b88_9 (by rw [HSL.out.1]; rfl) HI8.out HSO.out.1 ?_
     refine gen_KA (fun V => Keeps (fun i => i = wr.drew.heap.size) v8_9 V ∧ Blk V wr.drew.heap.size 44 SC) ⟨setRow_keep _ _ _, b88_9.setRow _⟩ ?_
     rintro v8_9_10 ⟨k8_9_10, b88_9_10⟩
     have ne8_9_10 : v8.heap.size ≠ wr.drew.heap.size := by
      have h1 := b88.lt
      omega
     have b98_9_10 := k8_9_10.blk b98_9 ne8_9_10
     have h8_9_10 := hHeld.trans k8_9_10 (fun i hi e => by have h2 := lo88; omega)
     refine hK.out _ _ h8_9_10 (fun hHeld => ?_)
     clear hK K
     try simp only [pu]
     refine wpAnyH_ready (rs := [11]) (by kernel_rfl) (by simp) ?_
     refine (AllReadyH.cons (o := ⟨none, _, _, _, _, _⟩) rfl (fun K hK => ?_) AllReadyH.nil)
     skip
     refine step_store_whole rfl 47 (.tmp 9) (.tmp 35) rfl SD rfl rfl b98_9_10 (by rw [HSL.out.2]; rfl) HI9.out HSO.out.2 ?_
     refine gen_KA (fun V => Keeps (fun i => i = v8.heap.size) v8_9_10 V ∧ Blk V v8.heap.size 47 SD) ⟨setRow_keep _ _ _, b98_9_10.setRow _⟩ ?_
     rintro v8_9_10_11 ⟨k8_9_10_11, b98_9_10_11⟩
     have ne8_9_10_11 : wr.drew.heap.size ≠ v8.heap.size := by
      have h1 := b88.lt
      omega
     have b88_9_10_11 := k8_9_10_11.blk b88_9_10 ne8_9_10_11
     have h8_9_10_11 := hHeld.trans k8_9_10_11 (fun i hi e => by have h2 := lo98_9; omega)
     refine hK.out _ _ h8_9_10_11 (fun hHeld => ?_)
     clear hK K
     try simp only [pu]
     refine wpAnyH_done (by kernel_rfl) ?_ _
     go_wp2
     go_meet
     exact ⟨_, _, rfl, rfl, Lib.hid ⟨hHeld, b88_9_10_11, b98_9_10_11⟩⟩
    ·go_simp
     refine gen_KA (fun V => Keeps (fun _ => False) wr.drew V ∧ Blk V wr.drew.heap.size 47 [Value.int .i64 0, .bool false, .int .u64 0, .string .empty, .int .i64 0, .slice none 0 0]) ⟨(Keeps.refl _ _).alloc _, Blk.new _ _ _⟩ ?_
     rintro v9 ⟨k9, b99⟩
     have lo99 := hHeld.size
     have h9 := hHeld.trans k9 (fun _ _ h => h)
     refine hK.out _ _ h9 (fun hHeld => ?_)
     clear hK K
     try simp only [pu]
     refine wpAnyH_ready (rs := [8]) (by kernel_rfl) (by simp) ?_
     refine (AllReadyH.cons (o := ⟨some 8, _, _, _, _, _⟩) rfl (fun K hK => ?_) AllReadyH.nil)
     go_simp
     refine gen_KA (fun V => Keeps (fun _ => False) v9 V ∧ Blk V v9.heap.size 44 [Value.int .i64 0, .bool false, .int .u64 0, .string .empty, .int .i64 0, .slice none 0 0]) ⟨(Keeps.refl _ _).alloc _, Blk.new _ _ _⟩ ?_
     rintro v9_8 ⟨k9_8, b89_8⟩
     have b99_8 := k9_8.blk b99 (fun h => h)
     have lo89_8 := hHeld.size
     have h9_8 := hHeld.trans k9_8 (fun _ _ h => h)
     refine hK.out _ _ h9_8 (fun hHeld => ?_)
     clear hK K
     try simp only [pu]
     refine wpAnyH_ready (rs := [10]) (by kernel_rfl) (by simp) ?_
     refine (AllReadyH.cons (o := ⟨none, _, _, _, _, _⟩) rfl (fun K hK => ?_) AllReadyH.nil)
     skip
     refine step_store_whole rfl 44 (.tmp 8) (.tmp 31) rfl SC rfl rfl b89_8 (by rw [HSL.out.1]; rfl) HI8.out HSO.out.1 ?_
     refine gen_KA (fun V => Keeps (fun i => i = v9.heap.size) v9_8 V ∧ Blk V v9.heap.size 44 SC) ⟨setRow_keep _ _ _, b89_8.setRow _⟩ ?_
     rintro v9_8_10 ⟨k9_8_10, b89_8_10⟩
     have ne9_8_10 : wr.drew.heap.size ≠ v9.heap.size := by
      have h1 := b99.lt
      omega
     have b99_8_10 := k9_8_10.blk b99_8 ne9_8_10
     have h9_8_10 := hHeld.trans k9_8_10 (fun i hi e => by have h2 := lo89_8; omega)
     refine hK.out _ _ h9_8_10 (fun hHeld => ?_)
     clear hK K
     try simp only [pu]
     refine wpAnyH_ready (rs := [11]) (by kernel_rfl) (by simp) ?_
     refine (AllReadyH.cons (o := ⟨none, _, _, _, _, _⟩) rfl (fun K hK => ?_) AllReadyH.nil)
     skip
     refine step_store_whole rfl 47 (.tmp 9) (.tmp 35) rfl SD rfl rfl b99_8_10 (by rw [HSL.out.2]; rfl) HI9.out HSO.out.2 ?_
     refine gen_KA (fun V => Keeps (fun i => i = wr.drew.heap.size) v9_8_10 V ∧ Blk V wr.drew.heap.size 47 SD) ⟨setRow_keep _ _ _, b99_8_10.setRow _⟩ ?_
     rintro v9_8_10_11 ⟨k9_8_10_11, b99_8_10_11⟩
     have ne9_8_10_11 : v9.heap.size ≠ wr.drew.heap.size := by
      have h1 := b99.lt
      omega
     have b89_8_10_11 := k9_8_10_11.blk b89_8_10 ne9_8_10_11
     have h9_8_10_11 := hHeld.trans k9_8_10_11 (fun i hi e => by have h2 := lo99; omega)
     refine hK.out _ _ h9_8_10_11 (fun hHeld => ?_)
     clear hK K
     try simp only [pu]
     refine wpAnyH_done (by kernel_rfl) ?_ _
     go_wp2
     go_meet
     exact ⟨_, _, rfl, rfl, Lib.hid ⟨hHeld, b89_8_10_11, b99_8_10_11⟩⟩
   case rest =>
    obtain ⟨p8, p9, rfl, rfl, HT9⟩ := hcut
    have HKC : Hid (Keeps (fun _ => False) wr wc) := Lib.hid HT9.out.keep
    have HCE : Hid (∀ W, Keeps (fun _ => False) wc W → (W.cell? ⟨p8, 5, none⟩ = some (.slice B s.keys.length d) ∧ W.cell? ⟨p9, 5, none⟩ = some (.slice B2 s.keys.length d2)) ∧ Rd W B s.keys.length (s.keys.map .string) ∧ Rd W B2 s.keys.length (s.keys.map .string)) := Lib.hid fun W hW => by
     have b8 := hW.blk HT9.out.b8 (fun h => h)
     have b9 := hW.blk HT9.out.b9 (fun h => h)
     rw [HSC.out] at b8
     rw [HSD.out] at b9
     exact ⟨⟨b8.cell 5, b9.cell 5⟩, HKK.out.1.keep (HT9.out.keep.trans hW (fun _ _ h => h)) (fun _ _ _ h => h), HKK.out.2.keep (HT9.out.keep.trans hW (fun _ _ h => h)) (fun _ _ _ h => h)⟩
    have b8 := HT9.out.b8
    have b9 := HT9.out.b9
    rw [HSC.out] at b8
    rw [HSD.out] at b9
    obtain ⟨x0, x1, x2, x3, x4, x5⟩ : StepCells wc p8 SC s B d := ⟨b8.cell 0, b8.cell 1, b8.cell 2, b8.cell 3, b8.cell 4, b8.cell 5⟩
    obtain ⟨y0, y1, y2, y3, y4, y5⟩ : StepCells wc p9 SD s B2 d2 := ⟨b9.cell 0, b9.cell 1, b9.cell 2, b9.cell 3, b9.cell 4, b9.cell 5⟩
    clear b8 b9 HT9
    go_upto_block 2 with fail
    go_wp2
    clear x0 x1 x2 x3 x4 x5 y0 y1 y2 y3 y4 y5
    go_loopg [10] s.keys.length (fun gk t wx => ∃ (k : Nat), k ≤ s.keys.length ∧ t = .int .i64 k ∧ gk = s.keys.length - k ∧ Hid (Keeps (fun _ => False) wc wx))
    case atStart => exact ⟨0, by omega, rfl, rfl, Lib.hid (Keeps.refl _ _)⟩
    case round =>
     obtain ⟨k, hkn, rfl, hgk2, HKZ⟩ := hrel
     have HGK2 := Lib.hid hgk2
     clear hgk2
     obtain ⟨⟨x5, y5⟩, hr1, hr2⟩ := HCE.out _ HKZ.out
     by_cases hlk : k < s.keys.length
     ·obtain ⟨g3, o3, t, hB, hkt, hck⟩ := textAt hr1 hlk
      obtain ⟨g4, o4, t', hB2, hkt', hck'⟩ := textAt hr2 hlk
      rw [hkt] at hkt'
      injection hkt' with hkt'
      subst hkt' hB hB2
      have HT3 := Lib.hid (And.intro (And.intro x5 y5) (And.intro hck hck'))
      have hk0 : (0 : Int) ≤ (k : Int) := by omega
      have hkN : (k : Int) < (s.keys.length : Int) := by omega
      have hcmp : (t.toList == t.toList) = true := beq_self_eq_true _
      clear hr1 hr2 hkt hck hck'
      go_upto_region 15 with fail
      refine wp_region_held_drew (S := Keeps (fun _ => False) wr) (by kernel_rfl) (Keeps.refl _ _).drew (fun hHeld => ?_)
      refine tH (i := 0) (oi := ⟨some 85, _, _, _, _, _⟩) (v := ?_) rfl (Or.inl ⟨by rfl, ?_⟩) hHeld ?_
      rotate_left
      ·intro w' hSw
       go_simp
       first | done | rfl
      try simp only [pu]
      refine tH (i := 1) (oi := ⟨some 86, _, _, _, _, _⟩) (v := ?_) rfl (Or.inl ⟨by rfl, ?_⟩) hHeld ?_
      rotate_left
      ·intro w' hSw
       have cv := cell_keep hSw HT3.out.1.1
       go_simp
       first | done | rfl
      try simp only [pu]
      refine tH (i := 2) (oi := ⟨some 87, _, _, _, _, _⟩) (v := ?_) rfl (Or.inl ⟨by rfl, ?_⟩) hHeld ?_
      rotate_left
      ·intro w' hSw
       go_simp
       first | done | rfl
      try simp only [pu]
      refine tH (i := 3) (oi := ⟨some 88, _, _, _, _, _⟩) (v := ?_) rfl (Or.inl ⟨by rfl, ?_⟩) hHeld ?_
      rotate_left
      ·intro w' hSw
       go_simp
       first | done | rfl
      try simp only [pu]
      refine tH (i := 4) (oi := ⟨some 89, _, _, _, _, _⟩) (v := ?_) rfl (Or.inl ⟨by rfl, ?_⟩) hHeld ?_
      rotate_left
      ·intro w' hSw
       have cv := cell_keep hSw HT3.out.2.1
       go_simp
       first | done | rfl
      try simp only [pu]
      refine tH (i := 5) (oi := ⟨some 90, _, _, _, _, _⟩) (v := ?_) rfl (Or.inl ⟨by rfl, ?_⟩) hHeld ?_
      rotate_left
      ·intro w' hSw
       go_simp
       first | done | rfl
      try simp only [pu]
      refine tH (i := 6) (oi := ⟨some 91, _, _, _, _, _⟩) (v := ?_) rfl (Or.inl ⟨by rfl, ?_⟩) hHeld ?_
      rotate_left
      ·intro w' hSw
       have cv := cell_keep hSw HT3.out.1.2
       go_simp
       first | done | rfl
      try simp only [pu]
      refine tH (i := 7) (oi := ⟨some 92, _, _, _, _, _⟩) (v := ?_) rfl (Or.inl ⟨by rfl, ?_⟩) hHeld ?_
      rotate_left
      ·intro w' hSw
       go_simp
       first | done | rfl
      try simp only [pu]
      refine tH (i := 8) (oi := ⟨some 93, _, _, _, _, _⟩) (v := ?_) rfl (Or.inl ⟨by rfl, ?_⟩) hHeld ?_
      rotate_left
      ·intro w' hSw
       go_simp
       first | done | rfl
      try simp only [pu]
      refine tH (i := 9) (oi := ⟨some 94, _, _, _, _, _⟩) (v := ?_) rfl (Or.inl ⟨by rfl, ?_⟩) hHeld ?_
      rotate_left
      ·intro w' hSw
       have cv := cell_keep hSw HT3.out.2.2
       go_simp
       first | done | rfl
      try simp only [pu]
      refine tH (i := 10) (oi := ⟨some 95, _, _, _, _, _⟩) (v := ?_) rfl (Or.inl ⟨by rfl, ?_⟩) hHeld ?_
      rotate_left
      ·intro w' hSw
       go_simp
       first | done | rfl
      try simp only [pu]
      refine wpAnyH_done (by kernel_rfl) ?_ _
      have HK9 := Lib.hid hHeld
      clear hHeld x5 y5
      go_wp2
      go_roundg (s.keys.length - (k + 1))
      case measure => rw [HGK2.out]; omega
      case rel => exact ⟨k + 1, by omega, by go_num, rfl, Lib.hid (HKZ.out.trans HK9.out (fun _ _ h => h))⟩
     ·have hke : (k : Int) = (s.keys.length : Int) := by omega
      have HKE := Lib.hid hke
      have hkd : decide (k < s.keys.length) = false := decide_eq_false hlk
      clear hr1 hr2 hke
      go_wp2
      go_roundg (n - (i + 1))
      case measure => rw [HGK.out]; omega
      case rel => exact ⟨i + 1, by omega, by go_num, rfl, Lib.hid ((HKX.out.trans HKC.out (fun _ _ h => h)).trans HKZ.out (fun _ _ h => h))⟩
  ·obtain rfl : i = n := by omega
   go_wp2
   go_ret
   exact ⟨rfl, HK3.out.trans HKX.out (fun _ _ h => h)⟩
end Go.Proofs.YtdmcioghdindfaaGreat
