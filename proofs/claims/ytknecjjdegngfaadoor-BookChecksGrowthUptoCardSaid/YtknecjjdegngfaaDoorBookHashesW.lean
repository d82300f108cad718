/-
  WALKS: beyond; the statement BookHashes.
-/
import Derived.Test.YtknecjjdegngfaaDoorBookW
set_option linter.unusedSimpArgs false
namespace Go.Book
/-- How much parts take up, as beyond counts. -/
def weigh (pss : List (List Int)) : Nat := pss.flatten.length + pss.length
theorem weigh_le (pss : List (List Int)) (k : Nat) : weigh (pss.take k) ≤ weigh pss := by
  unfold weigh
  have h1 : (pss.take k).length ≤ pss.length := by rw [List.length_take]; omega
  have h2 : (pss.take k).flatten.length ≤ pss.flatten.length := by
    conv => rhs; rw [← List.take_append_drop k pss]
    rw [List.flatten_append, List.length_append]; omega
  omega
theorem weigh_step (pss : List (List Int)) (k : Nat) (bs : List Int) (h : pss[k]? = some bs) : weigh (pss.take (k + 1)) = weigh (pss.take k) + (bs.length + 1) := by
  unfold weigh
  rw [List.take_add_one, h]
  simp
  omega
end Go.Book
namespace Go.Proofs.YtknecjjdegngfaaDoor
open Go Go.RowKit Go.Sha Go.Aff Go.Book

set_option maxHeartbeats 1000000 in
set_option maxRecDepth 100000 in
theorem beyond_any (w : World) (A : Option Addr) (m c : Nat) (pss : List (List Int)) (hm : pss.length = m) (hp : RdPartsO (fun _ => False) w A pss) (hmb : m ≤ 140737488355328) :
    Calls Tryd.prog 10 #[.slice A m c] w fun e w' => e = .returned (.bool (decide (2147483648 ≤ weigh pss))) ∧ w' = w := by
  obtain ⟨vals, hv, _, hparts⟩ := hp
  have HC : Hid (∀ k, k < m → ∃ g o A' c' bs, A = some ⟨g, o, none⟩ ∧ w.cell? ⟨g, o + k, none⟩ = some (.slice A' bs.length c') ∧ pss[k]? = some bs ∧ bs.length ≤ 140737488351232) := Lib.hid fun k hk => by
    obtain ⟨g, o, e, hc⟩ := hv.2 (by omega)
    obtain ⟨bs, hbs⟩ : ∃ bs, pss[k]? = some bs := ⟨_, List.getElem?_eq_getElem (by omega)⟩
    obtain ⟨A', c', h1, _, _, _, _, h6⟩ := hparts k bs hbs
    exact ⟨g, o, A', c', bs, e, (hc k (by omega)).trans h1, hbs, h6⟩
  have HLE : Hid (∀ k, weigh (pss.take k) ≤ weigh pss) := Lib.hid (weigh_le pss)
  have HST : Hid (∀ k bs, pss[k]? = some bs → weigh (pss.take (k + 1)) = weigh (pss.take k) + (bs.length + 1)) := Lib.hid (weigh_step pss)
  have HEND : Hid (weigh (pss.take m) = weigh pss) := Lib.hid (by rw [← hm, List.take_length])
  obtain ⟨T, hT⟩ : ∃ T : Nat → Nat, T = fun k => weigh (pss.take k) := ⟨_, rfl⟩
  have hT' : ∀ k, weigh (pss.take k) = T k := fun k => by rw [hT]
  have h0 : T 0 = 0 := by rw [hT]; simp [weigh]
  obtain ⟨Z, hZ⟩ : ∃ Z, Z = weigh pss := ⟨_, rfl⟩
  simp only [hT'] at HLE HST HEND
  rw [← hZ] at HLE HEND ⊢
  have H0 := Lib.hid h0
  obtain ⟨R, hR⟩ : ∃ R, R = decide (2147483648 ≤ Z) := ⟨_, rfl⟩
  have HR : Hid ((2147483648 ≤ Z → R = true) ∧ (¬ 2147483648 ≤ Z → R = false)) := Lib.hid ⟨fun h => by rw [hR]; exact decide_eq_true h, fun h => by rw [hR]; exact decide_eq_false h⟩
  rw [← hR]
  clear hv hparts hT hT' h0 hZ hR
  go_enter Tryd.func10, Tryd.ntmps10
  go_wp2
  go_loop [3, 4] (fun n i => ∃ k x : Nat, k ≤ m ∧ (x : Int) ≤ 281474976710656 ∧ i = .int .i64 k ∧ n = .int .i64 x ∧ x = T k) (fun _ i => m - (intOf i).toNat)
  case atStart => exact ⟨0, 0, by omega, by omega, rfl, rfl, H0.out.symm⟩
  case round =>
    obtain ⟨k, x, hk, hx, rfl, rfl, hxT⟩ := hrel
    have HX := Lib.hid hxT
    clear hxT
    by_cases hlt : k < m
    · by_cases hbig : (x : Int) < 2147483648
      · obtain ⟨g, o, A', c', bs, rfl, hc, hbs, hl⟩ := HC.out k hlt
        have hs := HST.out k bs hbs
        rw [← HX.out] at hs
        obtain ⟨y, hy⟩ : ∃ y, y = bs.length := ⟨_, rfl⟩
        rw [← hy] at hc hl hs
        have HS := Lib.hid hs
        clear hs hy hbs
        go_wp2
        go_round
        case rel => exact ⟨k + 1, x + (y + 1), by omega, by omega, by go_num, by go_num, HS.out.symm⟩
        case measure => simp [intOf]; omega
      · have hR := HR.out.1 (by have := HLE.out k; have := HX.out; omega)
        subst hR
        have hx' : (2147483648 : Int) ≤ (x : Int) := by omega
        go_wp2
        go_ret
        exact ⟨rfl, rfl⟩
    · obtain rfl : k = m := by omega
      have hZ : x = Z := by rw [HX.out, HEND.out]
      by_cases hbig : (x : Int) < 2147483648
      · have hR := HR.out.2 (by omega)
        subst hR
        have hx' : ¬ (2147483648 : Int) ≤ (x : Int) := by omega
        clear hZ
        go_wp2
        go_ret
        exact ⟨rfl, rfl⟩
      · have hR := HR.out.1 (by omega)
        subst hR
        have hx' : (2147483648 : Int) ≤ (x : Int) := by omega
        clear hZ
        go_wp2
        go_ret
        exact ⟨rfl, rfl⟩

theorem dig_self (D : List Int) (hD : D.length = 32) (W : World) : (binOp .eql 24 (.agg (vb D).toArray) (.agg (vb D).toArray)).run Tryd.prog W = .ok (.bool true) W := by
  have := digest_eql W D D hD hD
  simpa using this

set_option maxHeartbeats 4000000 in
set_option maxRecDepth 100000 in
theorem bhashes_any (w : World) (hG : Glob w) (A : Option Addr) (n c : Nat) (bs l r : List Int) (hn : bs.length = n) (hr : Rd w A n (vb bs)) (hb : IsBytes bs) (hc : n ≤ c) (hm : n ≤ 140737488351232)
    (ll : l.length = 32) (lr : r.length = 32) (bl : IsBytes l) (br : IsBytes r) :
    Calls Tryd.prog 3 #[.slice A n c, .agg (vb l).toArray, .agg (vb r).toArray] w fun e w' => e = .returned (.bool true) ∧ Keeps (fun _ => False) w w' := by
  have hb1 := (Blk.new w 24 (vb l)).alloc (.cells (vb r).toArray 24)
  have hb2 := Blk.new (w.alloc (.cells (vb l).toArray 24)) 24 (vb r)
  rw [World.size_alloc] at hb2
  have hk0 : Keeps (fun _ => False) w ((w.alloc (.cells (vb l).toArray 24)).alloc (.cells (vb r).toArray 24)) := ((Keeps.refl _ w).alloc _).alloc _
  obtain ⟨lc, hlc⟩ : ∃ lc, lc = (vb l).toArray := ⟨_, rfl⟩
  obtain ⟨rc, hrc⟩ : ∃ rc, rc = (vb r).toArray := ⟨_, rfl⟩
  obtain ⟨W0, hW0⟩ : ∃ W0, W0 = ((w.alloc (.cells lc 24)).alloc (.cells rc 24)) := ⟨_, rfl⟩
  rw [← hlc, ← hrc] at hb1 hb2 hk0
  rw [← hW0] at hb1 hb2 hk0
  have hsz : W0.heap.size = w.heap.size + 1 + 1 := by rw [hW0]; simp only [World.size_alloc]
  have hp := parts_one (fun _ => False) W0 22 A n c bs (fun _ h => h.elim) hn (hr.keep hk0 (no_out _ _)) (no_out _ _) hb hc hm
  have hbe := beyond_any _ _ 1 1 [bs] rfl hp (by omega)
  have hw1 : weigh [bs] = n + 1 := by simp [weigh, hn]
  rw [hw1, hsz] at hbe
  have hk1 : Keeps (fun _ => False) w (W0.alloc (.cells #[.slice A n c] 22)) := hk0.alloc _
  have HALL : Hid (∀ W, Keeps (fun _ => False) w W → n ≤ 2147483648 → (Calls Tryd.prog 11 #[.slice A n c] W fun e w' => e = .returned (.agg (vb (leafF bs)).toArray) ∧ Keeps (fun _ => False) W w') ∧
      (Calls Tryd.prog 12 #[.slice A n c] W fun e w' => e = .returned (.agg (vb (leafF bs)).toArray) ∧ Keeps (fun _ => False) W w') ∧
      (Calls Tryd.prog 13 #[.agg (vb l).toArray, .agg (vb r).toArray] W fun e w' => e = .returned (.agg (vb (pairF l r)).toArray) ∧ Keeps (fun _ => False) W w') ∧
      (Calls Tryd.prog 14 #[.agg (vb l).toArray, .agg (vb r).toArray] W fun e w' => e = .returned (.agg (vb (pairF l r)).toArray) ∧ Keeps (fun _ => False) W w') ∧
      (Calls Tryd.prog 15 #[] W fun e w' => e = .returned (.agg (vb emptyF).toArray) ∧ Keeps (fun _ => False) W w') ∧
      (Calls Tryd.prog 16 #[] W fun e w' => e = .returned (.agg (vb emptyF).toArray) ∧ Keeps (fun _ => False) W w') ∧
      (convert 22 9 (.slice A n c)).run Tryd.prog W = .ok (.string (strOfNums bs)) W) := Lib.hid fun W hk hs => by
    have hGW := hG.keep hk (fun _ h => h.elim)
    have hrW := hr.keep hk (no_out _ _)
    exact ⟨leaf_any W hGW A n c bs hn hrW hb hc (by omega), rleaf_any W A n c bs hn hrW hb (by omega), pair_any W hGW l r ll lr bl br, rpair_any W l r ll lr bl br, empty_any W hGW, rempty_any W, convert_rd W Tryd.underlying22 Tryd.underlying5 Tryd.underlying9 c hrW⟩
  have HLG : Hid (∀ (W : World) (A' : Option Addr) (c' : Nat), Keeps (fun _ => False) w W → n ≤ 2147483648 → n ≤ c' → Rd W A' n (vb bs) → Calls Tryd.prog 11 #[.slice A' n c'] W fun e w' => e = .returned (.agg (vb (leafF bs)).toArray) ∧ Keeps (fun _ => False) W w') := Lib.hid fun W A' c' hk hs hc' hrW =>
    leaf_any W (hG.keep hk (fun _ h => h.elim)) A' n c' bs hn hrW hb hc' (by omega)
  have HSTR : Hid (∀ (W : World) (A' : Option Addr) (c' : Nat), Rd W A' n (vb bs) → (convert 22 9 (.slice A' n c')).run Tryd.prog W = .ok (.string (strOfNums bs)) W) := Lib.hid fun W A' c' hrW => convert_rd W Tryd.underlying22 Tryd.underlying5 Tryd.underlying9 c' hrW
  have heqL : ∀ W, (binOp .eql 24 (.agg (vb (leafF bs)).toArray) (.agg (vb (leafF bs)).toArray)).run Tryd.prog W = .ok (.bool true) W := dig_self _ (sumF_length _ _ _)
  have heqP : ∀ W, (binOp .eql 24 (.agg (vb (pairF l r)).toArray) (.agg (vb (pairF l r)).toArray)).run Tryd.prog W = .ok (.bool true) W := dig_self _ (sumF_length _ _ _)
  have heqE : ∀ W, (binOp .eql 24 (.agg (vb emptyF).toArray) (.agg (vb emptyF).toArray)).run Tryd.prog W = .ok (.bool true) W := dig_self _ (sumF_length _ _ _)
  have hDl : (leafF bs).length = 32 := sumF_length _ _ _
  obtain ⟨D, hD⟩ : ∃ D, D = leafF bs := ⟨_, rfl⟩
  obtain ⟨PD, hPD⟩ : ∃ PD, PD = pairF l r := ⟨_, rfl⟩
  obtain ⟨ED, hED⟩ : ∃ ED, ED = emptyF := ⟨_, rfl⟩
  rw [← hD] at HALL HLG hDl
  simp only [← hD] at heqL
  rw [← hPD, ← hED] at HALL
  simp only [← hPD] at heqP
  simp only [← hED] at heqE
  have HI : Hid (∀ v : List Int, v.length = 32 → (Tryd.prog.info? 24).map (·.size) = some (vb v).length) := Lib.hid fun v h => by rw [show (vb v).length = 32 by simp [vb, h]]; kernel_rfl
  have HINl := Lib.hid (HI.out l ll)
  have HINr := Lib.hid (HI.out r lr)
  have HIND := Lib.hid (HI.out D hDl)
  have HDL := Lib.hid hDl
  have HBE := Lib.hid hbe
  have HK1 := Lib.hid hk1
  have HB1 := Lib.hid (hb1.alloc (.cells #[.slice A n c] 22))
  have HB2 := Lib.hid (hb2.alloc (.cells #[.slice A n c] 22))
  have HR := Lib.hid hr
  have HL := Lib.hid hlc
  have HRC := Lib.hid hrc
  rw [hW0] at HBE HK1 HB1 HB2
  rw [← hlc, ← hrc]
  clear hD hPD hED hDl hb1 hb2 hk0 hlc hrc hW0 hsz hp hbe hw1 hk1 hr hb hn ll lr bl br hG
  by_cases hbig : n + 1 < 2147483648
  · have hdec : decide (2147483648 ≤ n + 1) = false := decide_eq_false (by omega)
    rw [hdec] at HBE
    go_enter Tryd.func3, Tryd.ntmps3
    go_wp2_with (first
      | (go_at_call 10; refine HBE.out.mono ?_; rintro e w1 ⟨rfl, rfl⟩)
      | (at_make; refine wpList_make0 _ rfl _ _ 22 rfl 5 (.int .u8 0) 1 Tryd.underlying22 info5 .i64 .i64 _ (n + 1) rfl rfl (by omega) (by omega) (by unfold maxLen; omega) ?_; intro w2 ho2 hg2; have hm2 := Mine.made ho2 hg2; have HMK := Lib.hid hm2.2.1; simp only [World.size_alloc] at hm2; have HM2 := Lib.hid hm2; clear hm2; have HK2 := Lib.hid (HK1.out.trans HMK.out (fun _ _ h => h)); have HR2 := Lib.hid (HR.out.keep HK2.out (no_out _ _)); clear ho2 hg2)
      | (at_builtin; refine wpList_append_rd _ rfl (.tmp 15) (.tmp 16) 22 rfl 5 (.int .u8 0) 1 Tryd.underlying22 info5 rfl _ 0 [] rfl HM2.out.1 A n c (vb bs) rfl HR2.out (vb_one bs) (by unfold maxLen; omega) (by omega) ?_; intro A3 c3 w3 hown hg hb; simp only [Nat.zero_add, List.nil_append] at hown hb ⊢; have HM3 := Lib.hid (Mine.app0 HM2.out hown hg hb); have hc3 : n ≤ c3 := (if h0 : n = 0 then by omega else (HM3.out.form (by omega)).elim fun g h => h.2.2); clear hown hg hb)
      | (go_at_call 11; refine (HLG.out _ _ _ (HK1.out.trans HM3.out.2.1 (fun _ _ h => h)) (by omega) hc3 (Rd.of_own HM3.out.1)).mono ?_; rintro e w4 ⟨rfl, hk4⟩; have HK4 := Lib.hid hk4; have HZ4 := Lib.hid (Blk.new w4 24 (List.replicate 32 (Value.int .u8 0))); clear hk4)
      | ((with_reducible show wpList _ _ _ (⟨none, Op.store 24 _ _, _, _, _, _⟩ :: _) _ _); refine wpList_store_whole rfl 24 _ _ rfl (vb D) rfl rfl HZ4.out (by simp [vb, HDL.out]) HIND.out (vb_one _) ?_; have hb5 := HZ4.out.setRow (vb D); have hk5 := (HK4.out.alloc (.cells (List.replicate 32 (Value.int .u8 0)).toArray 24)).setRow (.inr HK4.out.size) (vb D).toArray; refine gen_world (fun W => Blk W w4.heap.size 24 (vb D) ∧ Keeps (fun _ => False) w3 W) ⟨hb5, hk5⟩ ?_; clear hb5 hk5; rintro w5 ⟨hb5, hk5⟩; have HB5 := Lib.hid hb5; have HK5 := Lib.hid hk5; clear hb5 hk5))
    have hk35 : Keeps (fun _ => False) ((w.alloc (.cells lc 24)).alloc (.cells rc 24) |>.alloc (.cells #[.slice A n c] 22)) w5 := HM3.out.2.1.trans HK5.out (fun _ _ h => h)
    have hkw5 : Keeps (fun _ => False) w w5 := HK1.out.trans hk35 (fun _ _ h => h)
    have HRGD : Hid (∀ W, Keeps (fun _ => False) w5 W → W.rangeAt w4.heap.size 0 (vb D)) := Lib.hid fun W hk j v hv => by rw [Nat.zero_add, (hk.blk HB5.out (fun h => h)).cell, hv]
    have HRGl : Hid (∀ W, Keeps (fun _ => False) w5 W → W.rangeAt w.heap.size 0 (vb l)) := Lib.hid fun W hk j v hv => by rw [Nat.zero_add, (hk.blk (hk35.blk HB1.out (fun h => h)) (fun h => h)).cell, hv]
    have HRGr : Hid (∀ W, Keeps (fun _ => False) w5 W → W.rangeAt (w.heap.size + 1) 0 (vb r)) := Lib.hid fun W hk j v hv => by rw [Nat.zero_add, (hk.blk (hk35.blk HB2.out (fun h => h)) (fun h => h)).cell, hv]
    have hall := fun W (hk : Keeps (fun _ => False) w5 W) => HALL.out W (hkw5.trans hk (fun _ _ h => h)) (by omega)
    have HRL := Lib.hid (fun W hk => (hall W hk).2.1)
    have HPA := Lib.hid (fun W hk => (hall W hk).2.2.1)
    have HRP := Lib.hid (fun W hk => (hall W hk).2.2.2.1)
    have HEM := Lib.hid (fun W hk => (hall W hk).2.2.2.2.1)
    have HRE := Lib.hid (fun W hk => (hall W hk).2.2.2.2.2.1)
    have HCY := Lib.hid (fun W hk => (hall W hk).2.2.2.2.2.2)
    have HCX : Hid (∀ W, Keeps (fun _ => False) w5 W → (convert 22 9 (.slice A3 n c3)).run Tryd.prog W = .ok (.string (strOfNums bs)) W) := Lib.hid fun W hk => HSTR.out W A3 c3 (Rd.of_own ((HM3.out.keep HK5.out).keep hk).1)
    have HKW5 := Lib.hid hkw5
    clear hall hk35 hkw5 HALL
    refine wp_region_last (S := Keeps (fun _ => False) w5) 25 (by kernel_rfl) ((Keeps.refl (fun _ => False) _).drew) (fun hHeld => ?_)
    refine wpAnyZ_take (i := 0) (oi := ⟨some 20, _, _, _, _, _⟩) (v := _) rfl (by kernel_rfl) (by kernel_rfl) (by kernel_rfl) (by kernel_rfl) (fun _ _ _ h => h) (yieldsIf_load_mid (by rfl) _ _ rfl _ _ rfl (vb D) _ (fun w' h => HRGD.out _ h) Tryd.underlying24 rfl HIND.out) hHeld ?_
    try simp only [Act.put, List.setIfInBounds_toArray, List.set_cons_zero, List.set_cons_succ]
    refine wpAnyZ_take (i := 1) (oi := ⟨some 21, _, _, _, _, _⟩) (v := ?_) rfl (by kernel_rfl) (by kernel_rfl) (by kernel_rfl) (by kernel_rfl) (fun _ _ _ h => h) (Or.inl ⟨by rfl, ?_⟩) hHeld ?_
    rotate_left
    · intro w' hSw
      go_simp
      first | done | rfl
    try simp only [Act.put, List.setIfInBounds_toArray, List.set_cons_zero, List.set_cons_succ]
    refine wpAnyZ_step (i := 2) (o := ⟨some 22, _, _, _, _, _⟩) (by kernel_rfl) rfl (fun K hK => ?_)
    go_simp
    refine (HRL.out _ hHeld).mono ?_
    rintro e v5 ⟨rfl, hk5⟩
    have hq5 := hHeld.trans hk5 (fun _ _ h => h)
    show K _ v5
    refine hK.out _ _ hq5 (fun hHeld => ?_)
    clear hK K
    try simp only [Act.put, List.setIfInBounds_toArray, List.set_cons_zero, List.set_cons_succ]
    refine wpAnyZ_take (i := 3) (oi := ⟨some 23, _, _, _, _, _⟩) (v := ?_) rfl (by kernel_rfl) (by kernel_rfl) (by kernel_rfl) (by kernel_rfl) (fun _ _ _ h => h) (Or.inl ⟨by rfl, ?_⟩) hHeld ?_
    rotate_left
    · intro w' hSw
      go_simp
      first | done | rfl
    try simp only [Act.put, List.setIfInBounds_toArray, List.set_cons_zero, List.set_cons_succ]
    refine wpAnyZ_take (i := 4) (oi := ⟨some 24, _, _, _, _, _⟩) (v := ?_) rfl (by kernel_rfl) (by kernel_rfl) (by kernel_rfl) (by kernel_rfl) (fun _ _ _ h => h) (Or.inl ⟨by rfl, ?_⟩) hHeld ?_
    rotate_left
    · intro w' hSw
      go_simp
      first | done | rfl
    try simp only [Act.put, List.setIfInBounds_toArray, List.set_cons_zero, List.set_cons_succ]
    refine wpAnyZ_take (i := 5) (oi := ⟨some 25, _, _, _, _, _⟩) (v := ?_) rfl (by kernel_rfl) (by kernel_rfl) (by kernel_rfl) (by kernel_rfl) (fun _ _ _ h => h) (Or.inl ⟨by rfl, ?_⟩) hHeld ?_
    rotate_left
    · intro w' hSw
      go_simp
      first | done | rfl
    try simp only [Act.put, List.setIfInBounds_toArray, List.set_cons_zero, List.set_cons_succ]
    refine wpAnyZ_take (i := 6) (oi := ⟨some 26, _, _, _, _, _⟩) (v := ?_) rfl (by kernel_rfl) (by kernel_rfl) (by kernel_rfl) (by kernel_rfl) (fun _ _ _ h => h) (Or.inl ⟨by rfl, ?_⟩) hHeld ?_
    rotate_left
    · intro w' hSw
      have cv := HCX.out _ hSw
      go_simp
      first | done | rfl
    try simp only [Act.put, List.setIfInBounds_toArray, List.set_cons_zero, List.set_cons_succ]
    refine wpAnyZ_take (i := 7) (oi := ⟨some 27, _, _, _, _, _⟩) (v := ?_) rfl (by kernel_rfl) (by kernel_rfl) (by kernel_rfl) (by kernel_rfl) (fun _ _ _ h => h) (Or.inl ⟨by rfl, ?_⟩) hHeld ?_
    rotate_left
    · intro w' hSw
      go_simp
      first | done | rfl
    try simp only [Act.put, List.setIfInBounds_toArray, List.set_cons_zero, List.set_cons_succ]
    refine wpAnyZ_take (i := 8) (oi := ⟨some 28, _, _, _, _, _⟩) (v := ?_) rfl (by kernel_rfl) (by kernel_rfl) (by kernel_rfl) (by kernel_rfl) (fun _ _ _ h => h) (Or.inl ⟨by rfl, ?_⟩) hHeld ?_
    rotate_left
    · intro w' hSw
      have cv := HCY.out _ hSw
      go_simp
      first | done | rfl
    try simp only [Act.put, List.setIfInBounds_toArray, List.set_cons_zero, List.set_cons_succ]
    refine wpAnyZ_take (i := 9) (oi := ⟨some 29, _, _, _, _, _⟩) (v := ?_) rfl (by kernel_rfl) (by kernel_rfl) (by kernel_rfl) (by kernel_rfl) (fun _ _ _ h => h) (Or.inl ⟨by rfl, ?_⟩) hHeld ?_
    rotate_left
    · intro w' hSw
      go_simp
      first | done | rfl
    try simp only [Act.put, List.setIfInBounds_toArray, List.set_cons_zero, List.set_cons_succ]
    refine wpAnyZ_take (i := 10) (oi := ⟨some 30, _, _, _, _, _⟩) (v := ?_) rfl (by kernel_rfl) (by kernel_rfl) (by kernel_rfl) (by kernel_rfl) (fun _ _ _ h => h) (Or.inl ⟨by rfl, ?_⟩) hHeld ?_
    rotate_left
    · intro w' hSw
      go_simp
      first | done | rfl
    try simp only [Act.put, List.setIfInBounds_toArray, List.set_cons_zero, List.set_cons_succ]
    refine wpAnyZ_take (i := 11) (oi := ⟨some 31, _, _, _, _, _⟩) (v := ?_) rfl (by kernel_rfl) (by kernel_rfl) (by kernel_rfl) (by kernel_rfl) (fun _ _ _ h => h) (Or.inl ⟨by rfl, ?_⟩) hHeld ?_
    rotate_left
    · intro w' hSw
      go_simp
      first | done | rfl
    try simp only [Act.put, List.setIfInBounds_toArray, List.set_cons_zero, List.set_cons_succ]
    refine wpAnyZ_take (i := 12) (oi := ⟨some 32, _, _, _, _, _⟩) (v := _) rfl (by kernel_rfl) (by kernel_rfl) (by kernel_rfl) (by kernel_rfl) (fun _ _ _ h => h) (yieldsIf_load_mid (by rfl) _ _ rfl _ _ rfl (vb l) _ (fun w' h => HRGl.out _ h) Tryd.underlying24 rfl HINl.out) hHeld ?_
    try simp only [Act.put, List.setIfInBounds_toArray, List.set_cons_zero, List.set_cons_succ]
    refine wpAnyZ_take (i := 13) (oi := ⟨some 33, _, _, _, _, _⟩) (v := _) rfl (by kernel_rfl) (by kernel_rfl) (by kernel_rfl) (by kernel_rfl) (fun _ _ _ h => h) (yieldsIf_load_mid (by rfl) _ _ rfl _ _ rfl (vb r) _ (fun w' h => HRGr.out _ h) Tryd.underlying24 rfl HINr.out) hHeld ?_
    try simp only [Act.put, List.setIfInBounds_toArray, List.set_cons_zero, List.set_cons_succ]
    refine wpAnyZ_take (i := 15) (oi := ⟨some 35, _, _, _, _, _⟩) (v := _) rfl (by kernel_rfl) (by kernel_rfl) (by kernel_rfl) (by kernel_rfl) (fun _ _ _ h => h) (yieldsIf_load_mid (by rfl) _ _ rfl _ _ rfl (vb l) _ (fun w' h => HRGl.out _ h) Tryd.underlying24 rfl HINl.out) hHeld ?_
    try simp only [Act.put, List.setIfInBounds_toArray, List.set_cons_zero, List.set_cons_succ]
    refine wpAnyZ_take (i := 16) (oi := ⟨some 36, _, _, _, _, _⟩) (v := _) rfl (by kernel_rfl) (by kernel_rfl) (by kernel_rfl) (by kernel_rfl) (fun _ _ _ h => h) (yieldsIf_load_mid (by rfl) _ _ rfl _ _ rfl (vb r) _ (fun w' h => HRGr.out _ h) Tryd.underlying24 rfl HINr.out) hHeld ?_
    try simp only [Act.put, List.setIfInBounds_toArray, List.set_cons_zero, List.set_cons_succ]
    refine wpAnyZ_step (i := 14) (o := ⟨some 34, _, _, _, _, _⟩) (by kernel_rfl) rfl (fun K hK => ?_)
    go_simp
    refine (HPA.out _ hHeld).mono ?_
    rintro e v6 ⟨rfl, hk6⟩
    have hq6 := hHeld.trans hk6 (fun _ _ h => h)
    show K _ v6
    refine hK.out _ _ hq6 (fun hHeld => ?_)
    clear hK K
    try simp only [Act.put, List.setIfInBounds_toArray, List.set_cons_zero, List.set_cons_succ]
    refine wpAnyZ_step (i := 17) (o := ⟨some 37, _, _, _, _, _⟩) (by kernel_rfl) rfl (fun K hK => ?_)
    go_simp
    refine (HRP.out _ hHeld).mono ?_
    rintro e v7 ⟨rfl, hk7⟩
    have hq7 := hHeld.trans hk7 (fun _ _ h => h)
    show K _ v7
    refine hK.out _ _ hq7 (fun hHeld => ?_)
    clear hK K
    try simp only [Act.put, List.setIfInBounds_toArray, List.set_cons_zero, List.set_cons_succ]
    refine wpAnyZ_take (i := 18) (oi := ⟨some 38, _, _, _, _, _⟩) (v := ?_) rfl (by kernel_rfl) (by kernel_rfl) (by kernel_rfl) (by kernel_rfl) (fun _ _ _ h => h) (Or.inl ⟨by rfl, ?_⟩) hHeld ?_
    rotate_left
    · intro w' hSw
      go_simp
      first | done | rfl
    try simp only [Act.put, List.setIfInBounds_toArray, List.set_cons_zero, List.set_cons_succ]
    refine wpAnyZ_take (i := 19) (oi := ⟨some 39, _, _, _, _, _⟩) (v := ?_) rfl (by kernel_rfl) (by kernel_rfl) (by kernel_rfl) (by kernel_rfl) (fun _ _ _ h => h) (Or.inl ⟨by rfl, ?_⟩) hHeld ?_
    rotate_left
    · intro w' hSw
      go_simp
      first | done | rfl
    try simp only [Act.put, List.setIfInBounds_toArray, List.set_cons_zero, List.set_cons_succ]
    refine wpAnyZ_take (i := 20) (oi := ⟨some 40, _, _, _, _, _⟩) (v := ?_) rfl (by kernel_rfl) (by kernel_rfl) (by kernel_rfl) (by kernel_rfl) (fun _ _ _ h => h) (Or.inl ⟨by rfl, ?_⟩) hHeld ?_
    rotate_left
    · intro w' hSw
      go_simp
      first | done | rfl
    try simp only [Act.put, List.setIfInBounds_toArray, List.set_cons_zero, List.set_cons_succ]
    refine wpAnyZ_step (i := 21) (o := ⟨some 41, _, _, _, _, _⟩) (by kernel_rfl) rfl (fun K hK => ?_)
    go_simp
    refine (HEM.out _ hHeld).mono ?_
    rintro e v8 ⟨rfl, hk8⟩
    have hq8 := hHeld.trans hk8 (fun _ _ h => h)
    show K _ v8
    refine hK.out _ _ hq8 (fun hHeld => ?_)
    clear hK K
    try simp only [Act.put, List.setIfInBounds_toArray, List.set_cons_zero, List.set_cons_succ]
    refine wpAnyZ_step (i := 22) (o := ⟨some 42, _, _, _, _, _⟩) (by kernel_rfl) rfl (fun K hK => ?_)
    go_simp
    refine (HRE.out _ hHeld).mono ?_
    rintro e v9 ⟨rfl, hk9⟩
    have hq9 := hHeld.trans hk9 (fun _ _ h => h)
    show K _ v9
    refine hK.out _ _ hq9 (fun hHeld => ?_)
    clear hK K
    try simp only [Act.put, List.setIfInBounds_toArray, List.set_cons_zero, List.set_cons_succ]
    refine wpAnyZ_take (i := 23) (oi := ⟨some 43, _, _, _, _, _⟩) (v := ?_) rfl (by kernel_rfl) (by kernel_rfl) (by kernel_rfl) (by kernel_rfl) (fun _ _ _ h => h) (Or.inl ⟨by rfl, ?_⟩) hHeld ?_
    rotate_left
    · intro w' hSw
      go_simp
      first | done | rfl
    try simp only [Act.put, List.setIfInBounds_toArray, List.set_cons_zero, List.set_cons_succ]
    refine wpAnyZ_take (i := 24) (oi := ⟨some 44, _, _, _, _, _⟩) (v := ?_) rfl (by kernel_rfl) (by kernel_rfl) (by kernel_rfl) (by kernel_rfl) (fun _ _ _ h => h) (Or.inl ⟨by rfl, ?_⟩) hHeld ?_
    rotate_left
    · intro w' hSw
      go_simp
      first | done | rfl
    try simp only [Act.put, List.setIfInBounds_toArray, List.set_cons_zero, List.set_cons_succ]
    refine wpAnyZ_last (o := ⟨some 6, _, _, _, _, _⟩) (by kernel_rfl) (by kernel_rfl) rfl (fun K hK => ?_)
    go_simp
    refine hK.out _ _ ?_
    clear hK K
    try simp only [Act.put, List.setIfInBounds_toArray, List.set_cons_zero, List.set_cons_succ]
    have HK9 : Hid (Keeps (fun _ => False) w v9) := Lib.hid (HKW5.out.trans hHeld (fun _ _ h => h))
    go_wp2
    go_ret
    exact ⟨rfl, HK9.out⟩
  · have hdec : decide (2147483648 ≤ n + 1) = true := decide_eq_true (by omega)
    rw [hdec] at HBE
    go_enter Tryd.func3, Tryd.ntmps3
    go_wp2_with (first
      | (go_at_call 10; refine HBE.out.mono ?_; rintro e w1 ⟨rfl, rfl⟩))
    go_ret
    exact ⟨rfl, HK1.out⟩
end Go.Proofs.YtknecjjdegngfaaDoor
