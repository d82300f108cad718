/-
  WALKS: the statement HmacBlocks.
-/
import Derived.Test.YtnlnbgjpbnjjfaaDoorWakesW
import Derived.Test.YtnlnbgjpbnjjfaaDoorKit
set_option linter.unusedSimpArgs false
namespace Go.Proofs.YtnlnbgjpbnjjfaaDoor
open Go Go.RowKit Go.Sha Go.Aff Go.Mac

theorem dig_self (D : List Int) (hD : D.length = 32) (W : World) : (binOp .eql 41 (.agg (vb D).toArray) (.agg (vb D).toArray)).run Tryd.prog W = .ok (.bool true) W := by
  have := digest_eql W D D hD hD
  simpa using this
/-- hmac.Sum of one part that is laid at the call. -/
theorem hsum_one (w : World) (hG : Glob w) (A : Option Addr) (n c : Nat) (key : List Int) (hn : key.length = n) (hr : Rd w A n (vb key)) (hb : IsBytes key) (hc : n ≤ c) (hm : n ≤ 140737488351232)
    (B : Option Addr) (m d : Nat) (msg : List Int) (hn' : msg.length = m) (hr' : Rd w B m (vb msg)) (hb' : IsBytes msg) (hc' : m ≤ d) (hm' : m ≤ 140737488351232) :
    Calls Tryd.prog 19 #[.slice A n c, .slice (some ⟨w.heap.size, 0, none⟩) 1 1] (w.alloc (.cells #[.slice B m d] 22)) fun e w' => e = .returned (.agg (vb (macF key msg)).toArray) ∧ Keeps (fun _ => False) w w' := by
  have hk2 : Keeps (fun _ => False) w (w.alloc (.cells #[.slice B m d] 22)) := (Keeps.refl _ _).alloc _
  have hp := parts_one (fun _ => False) w 22 B m d msg (fun _ h => h.elim) hn' hr' (no_out _ _) hb' hc' hm'
  have hs := hsum_any (w.alloc (.cells #[.slice B m d] 22)) (hG.keep hk2 (fun _ h => h.elim)) A n c key hn (hr.keep hk2 (no_out _ _)) hb hc hm (some ⟨w.heap.size, 0, none⟩) 1 1 [msg] rfl hp (by omega) (by simp; omega)
  simp only [List.flatten_cons, List.flatten_nil, List.append_nil] at hs
  exact hs.mono fun e w' ⟨he, hk⟩ => ⟨he, hk2.trans hk (fun _ _ h => h)⟩

set_option maxHeartbeats 4000000 in
set_option maxRecDepth 100000 in
theorem hblocks_any (w : World) (hG : Glob w) (A B : Option Addr) (n c m d : Nat) (key msg : List Int) (t : Int) (hn : key.length = n) (hx : Rd w A n (vb key)) (bx : IsBytes key) (hc : n ≤ c) (hm : n ≤ 140737488351232)
    (hn' : msg.length = m) (hy : Rd w B m (vb msg)) (by' : IsBytes msg) (hc' : m ≤ d) (hm' : m ≤ 140737488351232) :
    Calls Tryd.prog 4 #[.slice A n c, .slice B m d, .int .i64 t] w fun e w' => e = .returned (.bool true) ∧ Keeps (fun _ => False) w w' := by
  have HS1 : Hid (∀ W, Keeps (fun _ => False) w W → Calls Tryd.prog 19 #[.slice A n c, .slice (some ⟨W.heap.size, 0, none⟩) 1 1] (W.alloc (.cells #[.slice B m d] 22)) fun e w' => e = .returned (.agg (vb (macF key msg)).toArray) ∧ Keeps (fun _ => False) W w') := Lib.hid fun W hk =>
    hsum_one W (hG.keep hk (fun _ h => h.elim)) A n c key hn (hx.keep hk (no_out _ _)) bx hc hm B m d msg hn' (hy.keep hk (no_out _ _)) by' hc' hm'
  have HSK : Hid (∀ (W : World) (A2 : Option Addr) (n2 c2 : Nat) (k2 : List Int), Keeps (fun _ => False) w W → k2.length = n2 → Rd W A2 n2 (vb k2) → IsBytes k2 → n2 ≤ c2 → n2 ≤ 64 → macF k2 msg = macF key msg → Calls Tryd.prog 19 #[.slice A2 n2 c2, .slice (some ⟨W.heap.size, 0, none⟩) 1 1] (W.alloc (.cells #[.slice B m d] 22)) fun e w' => e = .returned (.agg (vb (macF key msg)).toArray) ∧ Keeps (fun _ => False) W w') := Lib.hid fun W A2 n2 c2 k2 hk h1 h2 h3 h4 h5 h6 => by
    rw [← h6]
    exact hsum_one W (hG.keep hk (fun _ h => h.elim)) A2 n2 c2 k2 h1 h2 h3 h4 (by omega) B m d msg hn' (hy.keep hk (no_out _ _)) by' hc' hm'
  have HEK : Hid (∀ (W : World) (A2 : Option Addr) (n2 c2 : Nat) (k2 : List Int), Keeps (fun _ => False) w W → k2.length = n2 → Rd W A2 n2 (vb k2) → IsBytes k2 → n2 ≤ c2 → n2 ≤ 64 → macF k2 msg = macF key msg → Calls Tryd.prog 21 #[.slice A2 n2 c2, .slice B m d] W fun e w' => e = .returned (.agg (vb (macF key msg)).toArray) ∧ Keeps (fun _ => False) W w') := Lib.hid fun W A2 n2 c2 k2 hk h1 h2 h3 h4 h5 h6 => by
    rw [← h6]
    exact hextract_any W (hG.keep hk (fun _ h => h.elim)) A2 n2 c2 k2 h1 h2 h3 h4 (by omega) B m d msg hn' (hy.keep hk (no_out _ _)) by' hc' hm'
  have HW : Hid (∀ W, Keeps (fun _ => False) w W → Calls Tryd.prog 16 #[] W fun e w' => e = .returned (.bool true) ∧ Keeps (fun _ => False) W w') := Lib.hid fun W hk => wakes_any W (hG.keep hk (fun _ h => h.elim))
  have HML : Hid ((vb (macF key msg)).length = 32) := Lib.hid (by rw [vb_length, macF_length])
  have heq : ∀ W, (binOp .eql 41 (.agg (vb (macF key msg)).toArray) (.agg (vb (macF key msg)).toArray)).run Tryd.prog W = .ok (.bool true) W := dig_self _ (macF_length _ _)
  have HSX : Hid (∀ W, Keeps (fun _ => False) w W → Calls Tryd.prog 20 #[.slice (some ⟨W.heap.size, 0, none⟩) 1 1] (W.alloc (.cells #[.slice A n c] 22)) fun e w' => e = .returned (.agg (vb (sumF first 0 key)).toArray) ∧ Keeps (fun _ => False) W w') := Lib.hid fun W hk =>
    sums_one W (hG.keep hk (fun _ h => h.elim)) A n c key hn (hx.keep hk (no_out _ _)) bx hc hm
  have HLONG : Hid (64 < n → macF (sumF first 0 key) msg = macF key msg) := Lib.hid fun h => macF_long key msg (by omega)
  have HNO : Hid (∀ j, n + j ≤ 64 → macF (key ++ List.replicate j 0) msg = macF key msg) := Lib.hid fun j h => macF_noughts key msg j (by omega)
  obtain ⟨MV, hMV⟩ : ∃ MV, MV = vb (macF key msg) := ⟨_, rfl⟩
  have HM1 : Hid (∀ u ∈ MV, u.oneCell' = true) := Lib.hid (by rw [hMV]; exact vb_one _)
  have HIN : Hid ((Tryd.prog.info? 41).map (·.size) = some MV.length) := Lib.hid (by rw [hMV, HML.out]; exact info32)
  rw [← hMV] at HS1 HSK HEK HML
  simp only [← hMV] at heq
  obtain ⟨D, hD⟩ : ∃ D, D = sumF first 0 key := ⟨_, rfl⟩
  have HDL : Hid (D.length = 32) := Lib.hid (by rw [hD, sumF_length])
  have HDB : Hid (IsBytes D) := Lib.hid (by rw [hD]; exact sumF_bytes _ _ _)
  rw [← hD] at HSX HLONG
  have HN := Lib.hid hn
  have HXR := Lib.hid hx
  have HBX := Lib.hid bx
  clear hMV hD hx hy bx by' hn hn' hG
  by_cases hlong : n ≤ 64
  · have hl1 : ¬ (64 < (n : Int)) := by omega
    go_enter Tryd.func4, Tryd.ntmps4
    go_wp2_with (first
      | (go_at_call 19; refine (HS1.out _ (Keeps.refl _ _)).mono ?_; rintro e w1 ⟨rfl, hk1⟩; have HK1 := Lib.hid hk1; have HZ1 := Lib.hid (Blk.new w1 41 (List.replicate 32 (Value.int .u8 0))); clear hk1)
      | ((with_reducible show wpList _ _ _ (⟨none, Op.store 41 _ _, _, _, _, _⟩ :: _) _ _); refine wpList_store_whole rfl 41 _ _ rfl MV rfl rfl HZ1.out (by rw [HML.out]; simp) HIN.out HM1.out ?_; have hb2 := HZ1.out.setRow MV; have hk2 := (HK1.out.alloc (.cells (List.replicate 32 (Value.int .u8 0)).toArray 41)).setRow (.inr HK1.out.size) MV.toArray; refine gen_world (fun W => Blk W w1.heap.size 41 MV ∧ Keeps (fun _ => False) w W) ⟨hb2, hk2⟩ ?_; clear hb2 hk2; rintro W2 ⟨hb2, hk2⟩; have HB2 := Lib.hid hb2; have HK2 := Lib.hid hk2; have HO2 := Lib.hid (World.ownsRow_made (base := 0) (e := 5) (size := 1) W2 #[] 0 (by omega) (by unfold maxLen; omega) rfl); have HR2 := Lib.hid ((HXR.out.keep hk2 (no_out _ _)).alloc (.cells #[] 5)); clear hb2 hk2)
      | (at_builtin; refine wpList_append_rd _ rfl (.tmp 30) (.tmp 31) 22 rfl 5 (.int .u8 0) 1 Tryd.underlying22 info5 rfl (.slice (some ⟨W2.heap.size, 0, none⟩) 0 0) 0 [] rfl HO2.out A n c (vb key) rfl HR2.out (vb_one key) (by unfold maxLen; omega) (by omega) ?_; intro A3 c3 w3 hown hg hb; simp only [Nat.zero_add, List.nil_append] at hown hb ⊢; have HM3 := Lib.hid (Mine.app0 (A := some ⟨W2.heap.size, 0, none⟩) (m := 0) (c := 0) (xs := []) (w := w) ⟨HO2.out, HK2.out.alloc _, fun g e => by have e1 : some W2.heap.size = some g := e; injection e1 with e1; have := HK2.out.size; omega⟩ hown hg hb); have HB3 := Lib.hid ((Keeps.of_grown hg).blk (HB2.out.alloc (.cells #[] 5)) (fun e => by have e1 : some W2.heap.size = some w1.heap.size := e; injection e1 with e1; have := HB2.out.lt; omega)); clear hown hg hb))
    go_loopw [9, 10] (fun v i wr => ∃ (j : Nat) (A4 : Option Addr) (c4 : Nat), n + j ≤ 64 ∧ i = .int .i64 j ∧ v = .slice A4 (n + j) c4 ∧ Mine w wr 5 A4 (n + j) c4 (vb (key ++ List.replicate j 0)) ∧ Blk wr w1.heap.size 41 MV) (fun v _ _ => 64 - lenV v)
    case atStart => exact ⟨0, A3, c3, by omega, rfl, rfl, by simpa using HM3.out, HB3.out⟩
    case round =>
      clear HM3 HB3
      obtain ⟨j, A4, c4, hj, rfl, rfl, hm4, hb4⟩ := hrel
      have HM4 := Lib.hid hm4
      have HB4 := Lib.hid hb4
      clear hm4 hb4
      have hmore : vb (key ++ List.replicate j 0) ++ [.int .u8 0] = vb (key ++ List.replicate (j + 1) 0) := by simp [vb, List.replicate_succ']
      have HMORE := Lib.hid hmore
      clear hmore
      by_cases hlt : (j : Int) < t ∧ n + j < 64
      · obtain ⟨hlt1, hlt2⟩ := hlt
        have hlt3 : (n : Int) + (j : Int) < 64 := by omega
        have HO := Lib.hid (HM4.out.1.alloc (.cells #[.int .u8 0] 5))
        have HRD := Lib.hid (Rd.of_blk (Blk.new wr 5 [.int .u8 0]) (n := 1) rfl)
        go_wp2_with (at_builtin; refine wpList_append_rd _ rfl (.tmp 43) (.tmp 44) 22 rfl 5 (.int .u8 0) 1 Tryd.underlying22 info5 rfl (.slice A4 (n + j) c4) (n + j) _ rfl HO.out _ 1 1 _ rfl HRD.out (vb_one [0]) (by unfold maxLen; omega) (by omega) ?_; intro A5 c5 w5 hown hg hb; rw [HMORE.out] at hown; have HM5 := Lib.hid (Mine.app HM4.out hown hg (by simpa only [World.size_alloc] using hb)); have HB5 := Lib.hid ((Keeps.of_grown hg).blk (HB4.out.alloc (.cells #[.int .u8 0] 5)) (fun e => own_blk HM4.out.1 HB4.out (by decide) e)); clear hown hg hb)
        go_roundw
        case rel => exact ⟨j + 1, A5, c5, by omega, by go_num, rfl, HM5.out, HB5.out⟩
        case measure => simp only [lenV]; omega
      · have hkw : Keeps (fun _ => False) w wr := HM4.out.2.1
        have hcap : n + j ≤ c4 := by
          rcases Nat.eq_zero_or_pos (n + j) with h0 | h0
          · omega
          · exact (HM4.out.form h0).elim fun g h => h.2.2
        have hkl : (key ++ List.replicate j 0).length = n + j := by rw [List.length_append, List.length_replicate, HN.out]
        have hkb : IsBytes (key ++ List.replicate j 0) := fun x hx => by
          rcases List.mem_append.1 hx with h | h
          · exact HBX.out x h
          · have := List.eq_of_mem_replicate h; omega
        have HS4 : Hid (∀ W, Keeps (fun _ => False) wr W → Calls Tryd.prog 19 #[.slice A4 (n + j) c4, .slice (some ⟨W.heap.size, 0, none⟩) 1 1] (W.alloc (.cells #[.slice B m d] 22)) fun e w' => e = .returned (.agg MV.toArray) ∧ Keeps (fun _ => False) W w') := Lib.hid fun W hk =>
          HSK.out W A4 (n + j) c4 _ (hkw.trans hk (fun _ _ h => h)) hkl (Rd.of_own (HM4.out.keep hk).1) hkb hcap hj (HNO.out j hj)
        have HEX : Hid (∀ W, Keeps (fun _ => False) wr W → Calls Tryd.prog 21 #[.slice A4 (n + j) c4, .slice B m d] W fun e w' => e = .returned (.agg MV.toArray) ∧ Keeps (fun _ => False) W w') := Lib.hid fun W hk =>
          HEK.out W A4 (n + j) c4 _ (hkw.trans hk (fun _ _ h => h)) hkl (Rd.of_own (HM4.out.keep hk).1) hkb hcap hj (HNO.out j hj)
        have HWK : Hid (∀ W, Keeps (fun _ => False) wr W → Calls Tryd.prog 16 #[] W fun e w' => e = .returned (.bool true) ∧ Keeps (fun _ => False) W w') := Lib.hid fun W hk => HW.out W (hkw.trans hk (fun _ _ h => h))
        have HRG : Hid (∀ W, Keeps (fun _ => False) wr W → W.rangeAt w1.heap.size 0 MV) := Lib.hid fun W hk i v hv => by rw [Nat.zero_add, (hk.blk HB4.out (fun h => h)).cell, hv]
        have HKW := Lib.hid hkw
        clear hkw hcap hkl hkb
        have hcase : ¬ (j : Int) < t ∨ ((j : Int) < t ∧ ¬ (n : Int) + (j : Int) < 64) := by omega
        clear hlt
        rcases hcase with h1 | ⟨h1, h2⟩
        all_goals
          go_wp2
          refine wp_region_last (S := Keeps (fun _ => False) wr) 16 (by kernel_rfl) ((Keeps.refl (fun _ => False) _).drew) (fun hHeld => ?_)
          refine wpAnyZ_take (i := 0) (oi := ⟨some 46, _, _, _, _, _⟩) (v := ?_) rfl (by kernel_rfl) (by kernel_rfl) (by kernel_rfl) (by kernel_rfl) (fun _ _ _ h => h) (Or.inl ⟨by rfl, ?_⟩) hHeld ?_
          rotate_left
          · intro w' hSw
            go_simp
            first | done | rfl
          try simp only [Act.put, List.setIfInBounds_toArray, List.set_cons_zero, List.set_cons_succ]
          refine wpAnyZ_take (i := 1) (oi := ⟨some 47, _, _, _, _, _⟩) (v := ?_) rfl (by kernel_rfl) (by kernel_rfl) (by kernel_rfl) (by kernel_rfl) (fun _ _ _ h => h) (Or.inl ⟨by rfl, ?_⟩) hHeld ?_
          rotate_left
          · intro w' hSw
            go_simp
            first | done | rfl
          try simp only [Act.put, List.setIfInBounds_toArray, List.set_cons_zero, List.set_cons_succ]
          refine wpAnyZ_take (i := 4) (oi := ⟨some 50, _, _, _, _, _⟩) (v := _) rfl (by kernel_rfl) (by kernel_rfl) (by kernel_rfl) (by kernel_rfl) (fun _ _ _ h => h) (yieldsIf_load_mid (by rfl) _ _ rfl _ _ rfl MV _ (fun w' h => HRG.out _ h) Tryd.underlying41 rfl HIN.out) hHeld ?_
          try simp only [Act.put, List.setIfInBounds_toArray, List.set_cons_zero, List.set_cons_succ]
          refine wpAnyZ_step (i := 2) (o := ⟨some 48, _, _, _, _, _⟩) (by kernel_rfl) rfl (fun K hK => ?_)
          go_simp
          have hHeld0 := hHeld
          refine hK.out _ _ (hHeld.alloc _) (fun hHeld => ?_)
          clear hK K
          try simp only [Act.put, List.setIfInBounds_toArray, List.set_cons_zero, List.set_cons_succ]
          refine wpAnyZ_step (i := 3) (o := ⟨some 49, _, _, _, _, _⟩) (by kernel_rfl) rfl (fun K hK => ?_)
          go_simp
          refine (HS4.out _ hHeld0).mono ?_
          rintro e w5 ⟨rfl, hk5⟩
          have hq5 := hHeld0.trans hk5 (fun _ _ h => h)
          show K _ w5
          refine hK.out _ _ hq5 (fun hHeld => ?_)
          clear hK K
          try simp only [Act.put, List.setIfInBounds_toArray, List.set_cons_zero, List.set_cons_succ]
          refine wpAnyZ_take (i := 5) (oi := ⟨some 51, _, _, _, _, _⟩) (v := ?_) rfl (by kernel_rfl) (by kernel_rfl) (by kernel_rfl) (by kernel_rfl) (fun _ _ _ h => h) (Or.inl ⟨by rfl, ?_⟩) hHeld ?_
          rotate_left
          · intro w' hSw
            go_simp
            first | done | rfl
          try simp only [Act.put, List.setIfInBounds_toArray, List.set_cons_zero, List.set_cons_succ]
          refine wpAnyZ_take (i := 6) (oi := ⟨some 52, _, _, _, _, _⟩) (v := ?_) rfl (by kernel_rfl) (by kernel_rfl) (by kernel_rfl) (by kernel_rfl) (fun _ _ _ h => h) (Or.inl ⟨by rfl, ?_⟩) hHeld ?_
          rotate_left
          · intro w' hSw
            go_simp
            first | done | rfl
          try simp only [Act.put, List.setIfInBounds_toArray, List.set_cons_zero, List.set_cons_succ]
          refine wpAnyZ_take (i := 7) (oi := ⟨some 53, _, _, _, _, _⟩) (v := ?_) rfl (by kernel_rfl) (by kernel_rfl) (by kernel_rfl) (by kernel_rfl) (fun _ _ _ h => h) (Or.inl ⟨by rfl, ?_⟩) hHeld ?_
          rotate_left
          · intro w' hSw
            go_simp
            first | done | rfl
          try simp only [Act.put, List.setIfInBounds_toArray, List.set_cons_zero, List.set_cons_succ]
          refine wpAnyZ_take (i := 8) (oi := ⟨some 54, _, _, _, _, _⟩) (v := ?_) rfl (by kernel_rfl) (by kernel_rfl) (by kernel_rfl) (by kernel_rfl) (fun _ _ _ h => h) (Or.inl ⟨by rfl, ?_⟩) hHeld ?_
          rotate_left
          · intro w' hSw
            go_simp
            first | done | rfl
          try simp only [Act.put, List.setIfInBounds_toArray, List.set_cons_zero, List.set_cons_succ]
          refine wpAnyZ_take (i := 10) (oi := ⟨some 56, _, _, _, _, _⟩) (v := _) rfl (by kernel_rfl) (by kernel_rfl) (by kernel_rfl) (by kernel_rfl) (fun _ _ _ h => h) (yieldsIf_load_mid (by rfl) _ _ rfl _ _ rfl MV _ (fun w' h => HRG.out _ h) Tryd.underlying41 rfl HIN.out) hHeld ?_
          try simp only [Act.put, List.setIfInBounds_toArray, List.set_cons_zero, List.set_cons_succ]
          refine wpAnyZ_step (i := 9) (o := ⟨some 55, _, _, _, _, _⟩) (by kernel_rfl) rfl (fun K hK => ?_)
          go_simp
          refine (HEX.out _ hHeld).mono ?_
          rintro e w6 ⟨rfl, hk6⟩
          have hq6 := hHeld.trans hk6 (fun _ _ h => h)
          show K _ w6
          refine hK.out _ _ hq6 (fun hHeld => ?_)
          clear hK K
          try simp only [Act.put, List.setIfInBounds_toArray, List.set_cons_zero, List.set_cons_succ]
          refine wpAnyZ_take (i := 11) (oi := ⟨some 57, _, _, _, _, _⟩) (v := ?_) rfl (by kernel_rfl) (by kernel_rfl) (by kernel_rfl) (by kernel_rfl) (fun _ _ _ h => h) (Or.inl ⟨by rfl, ?_⟩) hHeld ?_
          rotate_left
          · intro w' hSw
            go_simp
            first | done | rfl
          try simp only [Act.put, List.setIfInBounds_toArray, List.set_cons_zero, List.set_cons_succ]
          refine wpAnyZ_take (i := 12) (oi := ⟨some 58, _, _, _, _, _⟩) (v := ?_) rfl (by kernel_rfl) (by kernel_rfl) (by kernel_rfl) (by kernel_rfl) (fun _ _ _ h => h) (Or.inl ⟨by rfl, ?_⟩) hHeld ?_
          rotate_left
          · intro w' hSw
            go_simp
            first | done | rfl
          try simp only [Act.put, List.setIfInBounds_toArray, List.set_cons_zero, List.set_cons_succ]
          refine wpAnyZ_take (i := 13) (oi := ⟨some 59, _, _, _, _, _⟩) (v := ?_) rfl (by kernel_rfl) (by kernel_rfl) (by kernel_rfl) (by kernel_rfl) (fun _ _ _ h => h) (Or.inl ⟨by rfl, ?_⟩) hHeld ?_
          rotate_left
          · intro w' hSw
            go_simp
            first | done | rfl
          try simp only [Act.put, List.setIfInBounds_toArray, List.set_cons_zero, List.set_cons_succ]
          refine wpAnyZ_step (i := 14) (o := ⟨some 60, _, _, _, _, _⟩) (by kernel_rfl) rfl (fun K hK => ?_)
          go_simp
          refine (HWK.out _ hHeld).mono ?_
          rintro e w7 ⟨rfl, hk7⟩
          have hq7 := hHeld.trans hk7 (fun _ _ h => h)
          show K _ w7
          refine hK.out _ _ hq7 (fun hHeld => ?_)
          clear hK K
          try simp only [Act.put, List.setIfInBounds_toArray, List.set_cons_zero, List.set_cons_succ]
          refine wpAnyZ_take (i := 15) (oi := ⟨some 61, _, _, _, _, _⟩) (v := ?_) rfl (by kernel_rfl) (by kernel_rfl) (by kernel_rfl) (by kernel_rfl) (fun _ _ _ h => h) (Or.inl ⟨by rfl, ?_⟩) hHeld ?_
          rotate_left
          · intro w' hSw
            go_simp
            first | done | rfl
          try simp only [Act.put, List.setIfInBounds_toArray, List.set_cons_zero, List.set_cons_succ]
          refine wpAnyZ_last (o := ⟨some 6, _, _, _, _, _⟩) (by kernel_rfl) (by kernel_rfl) rfl (fun K hK => ?_)
          go_simp
          refine hK.out _ _ ?_
          clear hK K
          try simp only [Act.put, List.setIfInBounds_toArray, List.set_cons_zero, List.set_cons_succ]
          have HK : Hid (Keeps (fun _ => False) w w7) := Lib.hid (HKW.out.trans hHeld (fun _ _ h => h))
          go_wp2
          go_ret
          exact ⟨rfl, HK.out⟩
  · have hl1 : (64 < (n : Int)) := by omega
    go_enter Tryd.func4, Tryd.ntmps4
    have tok1 : True := trivial
    go_wp2_with (first
      | (go_at_call 19; refine (HS1.out _ (Keeps.refl _ _)).mono ?_; rintro e w1 ⟨rfl, hk1⟩; have HK1 := Lib.hid hk1; have HZ1 := Lib.hid (Blk.new w1 41 (List.replicate 32 (Value.int .u8 0))); clear hk1)
      | ((with_reducible show wpList _ _ _ (⟨none, Op.store 41 (.tmp 7) _, _, _, _, _⟩ :: _) _ _); refine wpList_store_whole rfl 41 _ _ rfl MV rfl rfl HZ1.out (by rw [HML.out]; simp) HIN.out HM1.out ?_; have hb2 := HZ1.out.setRow MV; have hk2 := (HK1.out.alloc (.cells (List.replicate 32 (Value.int .u8 0)).toArray 41)).setRow (.inr HK1.out.size) MV.toArray; refine gen_world (fun W => Blk W w1.heap.size 41 MV ∧ Keeps (fun _ => False) w W) ⟨hb2, hk2⟩ ?_; clear hb2 hk2; rintro W2 ⟨hb2, hk2⟩; have HB2 := Lib.hid hb2; have HK2 := Lib.hid hk2; clear hb2 hk2)
      | (go_at_call 20; refine (HSX.out _ HK2.out).mono ?_; rintro e w3 ⟨rfl, hk3⟩; have HK3 := Lib.hid hk3; have HZ3 := Lib.hid (Blk.new w3 41 (List.replicate 32 (Value.int .u8 0))); clear hk3)
      | ((with_reducible show wpList _ _ _ (⟨none, Op.store 41 (.tmp 8) _, _, _, _, _⟩ :: _) _ _); refine wpList_store_whole rfl 41 _ _ rfl (vb D) rfl rfl HZ3.out (by rw [vb_length, HDL.out]; simp) (by rw [vb_length, HDL.out]; exact info32) (vb_one _) ?_; have hb4 := HZ3.out.setRow (vb D); have hk4 := (HK3.out.alloc (.cells (List.replicate 32 (Value.int .u8 0)).toArray 41)).setRow (.inr HK3.out.size) (vb D).toArray; refine gen_world (fun W => Blk W w3.heap.size 41 (vb D) ∧ Keeps (fun _ => False) W2 W) ⟨hb4, hk4⟩ ?_; clear hb4 hk4; rintro w4 ⟨hb4, hk4⟩; have HB4 := Lib.hid hb4; have HK4 := Lib.hid hk4; clear hb4 hk4))
    have hkw4 : Keeps (fun _ => False) w w4 := HK2.out.trans HK4.out (fun _ _ h => h)
    have HS4 : Hid (∀ W, Keeps (fun _ => False) w4 W → Calls Tryd.prog 19 #[.slice (some ⟨w3.heap.size, 0, none⟩) 32 32, .slice (some ⟨W.heap.size, 0, none⟩) 1 1] (W.alloc (.cells #[.slice B m d] 22)) fun e w' => e = .returned (.agg MV.toArray) ∧ Keeps (fun _ => False) W w') := Lib.hid fun W hk =>
      HSK.out W _ 32 32 D (hkw4.trans hk (fun _ _ h => h)) HDL.out ((Rd.of_blk HB4.out (by rw [vb_length, HDL.out])).keep hk (no_out _ _)) HDB.out (Nat.le_refl _) (by omega) (HLONG.out (by omega))
    have HWK : Hid (∀ W, Keeps (fun _ => False) w4 W → Calls Tryd.prog 16 #[] W fun e w' => e = .returned (.bool true) ∧ Keeps (fun _ => False) W w') := Lib.hid fun W hk => HW.out W (hkw4.trans hk (fun _ _ h => h))
    have HRG : Hid (∀ W, Keeps (fun _ => False) w4 W → W.rangeAt w1.heap.size 0 MV) := Lib.hid fun W hk j v hv => by rw [Nat.zero_add, (hk.blk (HK4.out.blk HB2.out (fun h => h)) (fun h => h)).cell, hv]
    have HKW4 := Lib.hid hkw4
    clear hkw4
    refine wp_region_last (S := Keeps (fun _ => False) w4) 9 (by kernel_rfl) ((Keeps.refl (fun _ => False) _).drew) (fun hHeld => ?_)
    refine wpAnyZ_take (i := 0) (oi := ⟨some 21, _, _, _, _, _⟩) (v := ?_) rfl (by kernel_rfl) (by kernel_rfl) (by kernel_rfl) (by kernel_rfl) (fun _ _ _ h => h) (Or.inl ⟨by rfl, ?_⟩) hHeld ?_
    rotate_left
    · intro w' hSw
      go_simp
      first | done | rfl
    try simp only [Act.put, List.setIfInBounds_toArray, List.set_cons_zero, List.set_cons_succ]
    refine wpAnyZ_take (i := 1) (oi := ⟨some 22, _, _, _, _, _⟩) (v := ?_) rfl (by kernel_rfl) (by kernel_rfl) (by kernel_rfl) (by kernel_rfl) (fun _ _ _ h => h) (Or.inl ⟨by rfl, ?_⟩) hHeld ?_
    rotate_left
    · intro w' hSw
      go_simp
      first | done | rfl
    try simp only [Act.put, List.setIfInBounds_toArray, List.set_cons_zero, List.set_cons_succ]
    refine wpAnyZ_take (i := 4) (oi := ⟨some 25, _, _, _, _, _⟩) (v := _) rfl (by kernel_rfl) (by kernel_rfl) (by kernel_rfl) (by kernel_rfl) (fun _ _ _ h => h) (yieldsIf_load_mid (by rfl) _ _ rfl _ _ rfl MV _ (fun w' h => HRG.out _ h) Tryd.underlying41 rfl HIN.out) hHeld ?_
    try simp only [Act.put, List.setIfInBounds_toArray, List.set_cons_zero, List.set_cons_succ]
    refine wpAnyZ_step (i := 2) (o := ⟨some 23, _, _, _, _, _⟩) (by kernel_rfl) rfl (fun K hK => ?_)
    go_simp
    have hHeld0 := hHeld
    refine hK.out _ _ (hHeld.alloc _) (fun hHeld => ?_)
    clear hK K
    try simp only [Act.put, List.setIfInBounds_toArray, List.set_cons_zero, List.set_cons_succ]
    refine wpAnyZ_step (i := 3) (o := ⟨some 24, _, _, _, _, _⟩) (by kernel_rfl) rfl (fun K hK => ?_)
    go_simp
    refine (HS4.out _ hHeld0).mono ?_
    rintro e w5 ⟨rfl, hk5⟩
    have hq5 := hHeld0.trans hk5 (fun _ _ h => h)
    show K _ w5
    refine hK.out _ _ hq5 (fun hHeld => ?_)
    clear hK K
    try simp only [Act.put, List.setIfInBounds_toArray, List.set_cons_zero, List.set_cons_succ]
    refine wpAnyZ_take (i := 5) (oi := ⟨some 26, _, _, _, _, _⟩) (v := ?_) rfl (by kernel_rfl) (by kernel_rfl) (by kernel_rfl) (by kernel_rfl) (fun _ _ _ h => h) (Or.inl ⟨by rfl, ?_⟩) hHeld ?_
    rotate_left
    · intro w' hSw
      go_simp
      first | done | rfl
    try simp only [Act.put, List.setIfInBounds_toArray, List.set_cons_zero, List.set_cons_succ]
    refine wpAnyZ_take (i := 6) (oi := ⟨some 27, _, _, _, _, _⟩) (v := ?_) rfl (by kernel_rfl) (by kernel_rfl) (by kernel_rfl) (by kernel_rfl) (fun _ _ _ h => h) (Or.inl ⟨by rfl, ?_⟩) hHeld ?_
    rotate_left
    · intro w' hSw
      go_simp
      first | done | rfl
    try simp only [Act.put, List.setIfInBounds_toArray, List.set_cons_zero, List.set_cons_succ]
    refine wpAnyZ_step (i := 7) (o := ⟨some 28, _, _, _, _, _⟩) (by kernel_rfl) rfl (fun K hK => ?_)
    go_simp
    refine (HWK.out _ hHeld).mono ?_
    rintro e w6 ⟨rfl, hk6⟩
    have hq6 := hHeld.trans hk6 (fun _ _ h => h)
    show K _ w6
    refine hK.out _ _ hq6 (fun hHeld => ?_)
    clear hK K
    try simp only [Act.put, List.setIfInBounds_toArray, List.set_cons_zero, List.set_cons_succ]
    refine wpAnyZ_take (i := 8) (oi := ⟨some 29, _, _, _, _, _⟩) (v := ?_) rfl (by kernel_rfl) (by kernel_rfl) (by kernel_rfl) (by kernel_rfl) (fun _ _ _ h => h) (Or.inl ⟨by rfl, ?_⟩) hHeld ?_
    rotate_left
    · intro w' hSw
      go_simp
      first | done | rfl
    try simp only [Act.put, List.setIfInBounds_toArray, List.set_cons_zero, List.set_cons_succ]
    refine wpAnyZ_last (o := ⟨some 6, _, _, _, _, _⟩) (by kernel_rfl) (by kernel_rfl) rfl (fun K hK => ?_)
    go_simp
    refine hK.out _ _ ?_
    clear hK K
    try simp only [Act.put, List.setIfInBounds_toArray, List.set_cons_zero, List.set_cons_succ]
    have HK : Hid (Keeps (fun _ => False) w w6) := Lib.hid (HKW4.out.trans hHeld (fun _ _ h => h))
    go_wp2
    go_ret
    exact ⟨rfl, HK.out⟩
end Go.Proofs.YtnlnbgjpbnjjfaaDoor
