/-
  WALKS: the reference's Parts.
-/
import Derived.Test.YtnlnbgjpbnjjfaaDoorPartsW
set_option linter.unusedSimpArgs false
namespace Go.Proofs.YtnlnbgjpbnjjfaaDoor
open Go Go.RowKit Go.Sha Go.Aff Go.Mac

/-- What the reference's Parts leaves. -/
def RPartsPost (w : World) (row : List Int) (e : Ending) (w' : World) : Prop :=
  (∀ pss, partsF row = .ok pss → ∃ A k c vals, e = .returned (.tuple #[.slice A k c, .int .i64 (-1)]) ∧ PartsV w w' A k c vals pss) ∧
  (∀ j : Nat, partsF row = .error j → e = .returned (.tuple #[.slice none 0 0, .int .i64 j]) ∧ Keeps (fun _ => False) w w')

theorem take_snoc_int (l : List Int) (k : Nat) (h : k < l.length) : l.take (k + 1) = l.take k ++ [l.getD k 0] := by
  rw [List.take_succ_eq_append_getElem h]
  simp [h]

set_option maxHeartbeats 8000000 in
set_option maxRecDepth 100000 in
theorem rparts_any (w : World) (A : Option Addr) (n c : Nat) (row : List Int) (hn : row.length = n) (hr : Rd w A n (vb row)) (hb : IsBytes row) (hm : n ≤ 4398046511104) :
    Calls Tryd.prog 14 #[.slice A n c] w (RPartsPost w row) := by
  have HCELL : Hid (∀ (W : World) (j : Nat), Keeps (fun _ => False) w W → j < n → ∃ g o, A = some ⟨g, o, none⟩ ∧ W.cell? ⟨g, o + j, none⟩ = some (.int .u8 (row.getD j 0)) ∧ row[j]? = some (row.getD j 0) ∧ 0 ≤ row.getD j 0 ∧ row.getD j 0 < 256) := Lib.hid fun W j hk hlt => by
    obtain ⟨g, o, e, h⟩ := (hr.keep hk (no_out _ _)).2 (by omega)
    have hj : j < row.length := by omega
    refine ⟨g, o, e, ?_, by simp [hj], ?_⟩
    · rw [h j hlt]; simp [vb, hj]
    · have := hb (row.getD j 0) (by simp [hj])
      exact this
  have HOK : Hid (∀ pss A' k c' vals W, partsF row = .ok pss → PartsV w W A' k c' vals pss → RPartsPost w row (.returned (.tuple #[.slice A' k c', .int .i64 (-1)])) W) := Lib.hid fun pss A' k c' vals W h hp =>
    ⟨(fun pss' h' => by rw [h] at h'; injection h' with h'; subst h'; exact ⟨A', k, c', vals, rfl, hp⟩), (fun j h' => by rw [h] at h'; cases h')⟩
  have HER : Hid (∀ (j : Nat) W, partsF row = .error j → Keeps (fun _ => False) w W → RPartsPost w row (.returned (.tuple #[.slice none 0 0, .int .i64 j])) W) := Lib.hid fun j W h hk =>
    ⟨(fun pss' h' => by rw [h] at h'; cases h'), (fun j' h' => by rw [h] at h'; injection h' with h'; subst h'; exact ⟨rfl, hk⟩)⟩
  have R0 : Hid (∃ f, n < 0 + f ∧ parse row f 0 [] = partsF row) := Lib.hid ⟨row.length + 1, by omega, rfl⟩
  have HN := Lib.hid hn
  obtain ⟨PO, hPO⟩ : ∃ PO, PO = RPartsPost w row := ⟨_, rfl⟩
  rw [← hPO] at HOK HER ⊢
  have HR := Lib.hid hr
  clear hn hPO hr hb
  go_enter Tryd.func14, Tryd.ntmps14
  go_wp2
  go_loopw [4, 5] (fun v i wr => ∃ (k : Nat) (A2 : Option Addr) (m c2 : Nat) (vals : List Value) (pss : List (List Int)) (f : Nat), k ≤ n ∧ m ≤ k ∧ i = .int .i64 k ∧ v = .slice A2 m c2 ∧ PartsV w wr A2 m c2 vals pss ∧ n < k + f ∧ parse row f k pss = partsF row) (fun _ i _ => n - (intOf i).toNat)
  case atStart =>
    obtain ⟨f, hf1, hf2⟩ := R0.out
    exact ⟨0, none, 0, 0, [], [], f, by omega, by omega, rfl, rfl, PartsV.none w, hf1, hf2⟩
  case round =>
    clear R0
    obtain ⟨k, A2, m, c2, vals, pss, f, hk, hmk, rfl, rfl, hp, hf, hps⟩ := hrel
    obtain ⟨wo, rfl⟩ : ∃ wo : World, wo = wr := ⟨_, rfl⟩
    by_cases hlt : k < n
    · obtain ⟨f, rfl⟩ : ∃ f', f = f' + 1 := ⟨f - 1, by omega⟩
      have hkr : k < row.length := by rw [HN.out]; exact hlt
      have HP := Lib.hid hp
      have HPS := Lib.hid hps
      have HKP : Hid (Keeps (fun _ => False) w wo) := Lib.hid hp.row.2.1
      have HKR := Lib.hid hkr
      clear hp hps hkr
      go_wp2
      go_loop [5, 7] (fun i x => ∃ j y : Nat, k ≤ j ∧ j ≤ n ∧ y < 2147483648 ∧ i = .int .i64 j ∧ x = .int .i64 y ∧ scan row k (n - j) j y = scan row k (row.length - k) k 0) (fun i _ => n - (intOf i).toNat)
      case atStart => exact ⟨k, 0, by omega, by omega, by omega, rfl, rfl, by rw [HN.out]⟩
      case round =>
        obtain ⟨j, y, hj1, hj2, hy, rfl, rfl, hsc⟩ := hrel
        have HSC := Lib.hid hsc
        clear hsc
        by_cases hjn : j < n
        · obtain ⟨g, o, rfl, cj, hrj, hbl, hbh⟩ := HCELL.out wo j HKP.out hjn
          obtain ⟨b, hbb⟩ : ∃ b, b = row.getD j 0 := ⟨_, rfl⟩
          rw [← hbb] at cj hrj hbl hbh
          have HRJ := Lib.hid hrj
          have HBB := Lib.hid hbb
          clear hrj hbb
          by_cases h48 : 48 ≤ b ∧ b ≤ 57
          · obtain ⟨h48, h57⟩ := h48
            have hmod : (b - 48) % 256 = b - 48 := by omega
            have hz0 : k < j → ∃ z, wo.cell? ⟨g, o + k, none⟩ = some (.int .u8 z) ∧ z = row.getD k 0 := fun hkj => by
              obtain ⟨g2, o2, e2, ck, _, _, _⟩ := HCELL.out wo k HKP.out hlt
              injection e2 with e2
              injection e2 with e2a e2b
              subst e2a e2b
              exact ⟨_, ck, rfl⟩
            have HZ0 := Lib.hid hz0
            clear hz0
            by_cases hlead : k < j ∧ row.getD k 0 = 48
            · obtain ⟨hkj, hzz⟩ := hlead
              obtain ⟨z, ck, hz⟩ := HZ0.out hkj
              obtain rfl : z = 48 := hz.trans hzz
              have herr : partsF row = .error j := by
                rw [← HPS.out]
                refine parse_scan HKR.out ?_
                rw [← HSC.out, show n - j = (n - j - 1) + 1 by omega]
                exact scan_wrong HRJ.out ⟨h48, h57⟩ (.inr ⟨hkj, hzz⟩)
              have HF := Lib.hid (HER.out j wo herr HKP.out)
              clear herr hz hzz
              go_wp2
              exact HF.out
            · have hw0 : ¬ (k < j) ∨ ∃ z, k < j ∧ wo.cell? ⟨g, o + k, none⟩ = some (.int .u8 z) ∧ ¬ z = 48 := by
                by_cases hkj : k < j
                · obtain ⟨z, ck, hz⟩ := HZ0.out hkj
                  exact .inr ⟨z, hkj, ck, fun h => hlead ⟨hkj, by rw [← hz]; exact h⟩⟩
                · exact .inl hkj
              have HLEAD := Lib.hid hlead
              clear hlead
              by_cases hbig : 2147483648 ≤ 10 * (y : Int) + (b - 48)
              · have herr : partsF row = .error j := by
                  rw [← HPS.out]
                  refine parse_scan HKR.out ?_
                  rw [← HSC.out, show n - j = (n - j - 1) + 1 by omega]
                  exact scan_wrong HRJ.out ⟨h48, h57⟩ (.inl (by omega))
                have HF := Lib.hid (HER.out j wo herr HKP.out)
                clear herr
                rcases hw0 with hkj | ⟨z, hkj, ck, hz⟩
                all_goals
                  go_wp2
                  exact HF.out
              · have hnw : ¬ (2147483648 ≤ 10 * y + (b - 48).toNat ∨ (k < j ∧ row.getD k 0 = 48)) := fun h => h.elim (fun h => by omega) HLEAD.out
                have hsn : scan row k (n - (j + 1)) (j + 1) (10 * y + (b - 48).toNat) = scan row k (row.length - k) k 0 := by
                  rw [← HSC.out, show n - j = (n - (j + 1)) + 1 by omega]
                  exact (scan_step HRJ.out ⟨h48, h57⟩ hnw).symm
                have HSN := Lib.hid hsn
                have hcast : 10 * (y : Int) + (b - 48) = ((10 * y + (b - 48).toNat : Nat) : Int) := by omega
                have HCA := Lib.hid hcast
                clear hnw hsn hcast
                rcases hw0 with hkj | ⟨z, hkj, ck, hz⟩
                all_goals
                  go_wp2
                  go_round
                  case rel => exact ⟨j + 1, 10 * y + (b - 48).toNat, by omega, by omega, by omega, by go_num, by rw [HCA.out], HSN.out⟩
                  case measure => simp [intOf]; omega
          · have hsc : scan row k (row.length - k) k 0 = .ok (j, y) := by
              rw [← HSC.out]; exact scan_other HRJ.out h48
            have HS2 := Lib.hid hsc
            clear hsc
            have hcase : b < 48 ∨ (48 ≤ b ∧ 57 < b) := by omega
            clear h48
            by_cases hjk : j = k
            · subst hjk
              have herr : partsF row = .error j := by
                rw [← HPS.out]
                exact parse_mark HKR.out HS2.out (.inr (.inl rfl))
              have HF := Lib.hid (HER.out j wo herr HKP.out)
              clear herr
              rcases hcase with hb1 | ⟨hb1, hb2⟩
              all_goals
                go_wp2
                exact HF.out
            · have hq1 : (j == k) = false := by simpa using hjk
              have hq2 : ((j : Int) == (k : Int)) = false := by simp; omega
              have hq3 : (j == n) = false := by simp; omega
              have hq4 : ((j : Int) == (n : Int)) = false := by simp; omega
              by_cases h32 : b = 32
              · subst h32
                have hb1 : (32 : Int) < 48 := by omega
                have hmk : ¬ (j = row.length ∨ j = k ∨ row.getD j 0 ≠ 32) := by
                  rw [HN.out, ← HBB.out]
                  rintro (h | h | h)
                  · omega
                  · exact hjk h
                  · exact h rfl
                have HMK := Lib.hid hmk
                clear hmk hcase
                go_wp2
                clear hq1 hq2 hq3 hq4
                go_loopw [5, 8, 9] (fun i v q wx => ∃ (k2 c1 : Nat) (A1 : Option Addr), k2 ≤ y ∧ j + 1 + k2 ≤ n ∧ i = .int .i64 ((j + 1 + k2 : Nat) : Int) ∧ v = .slice A1 k2 c1 ∧ q = .int .i64 k2 ∧ Hid (Mine wo wx 5 A1 k2 c1 (vb ((row.drop (j + 1)).take k2)))) (fun _ _ q _ => y - (intOf q).toNat)
                case atStart => exact ⟨0, 0, none, by omega, by omega, by go_num, rfl, rfl, Lib.hid ⟨World.ownsRow_nil _ _ _ _, Keeps.refl _ _, fun g h => by cases h⟩⟩
                case round =>
                  obtain ⟨k2, c1, A1, hk2, hkn, rfl, rfl, rfl, HM1⟩ := hrel
                  obtain ⟨wx, rfl⟩ : ∃ wx : World, wx = wr := ⟨_, rfl⟩
                  have HKX : Hid (Keeps (fun _ => False) w wx) := Lib.hid (HKP.out.trans HM1.out.2.1 (fun _ _ h => h))
                  by_cases hky : k2 < y
                  · by_cases hend : j + 1 + k2 = n
                    · have herr : partsF row = .error n := by
                        rw [← HPS.out, ← HN.out]
                        exact parse_short HKR.out HS2.out HMK.out (by rw [HN.out]; omega)
                      have HF := Lib.hid (HER.out n wx herr HKX.out)
                      have hend' : (j : Int) + 1 + (k2 : Int) = (n : Int) := by omega
                      have HEQ := Lib.hid hend'
                      have hb1 : ((j : Int) + 1 + (k2 : Int) == (n : Int)) = true := by simpa using hend'
                      have hb2 : (j + 1 + k2 == n) = true := by simpa using hend
                      clear herr hend' hend
                      go_wp2
                      have hf := HF.out
                      rw [← HEQ.out] at hf
                      exact hf
                    · obtain ⟨g9, o9, e9, ce, hrz, _, _⟩ := HCELL.out wx (j + 1 + k2) HKX.out (by omega)
                      injection e9 with e9
                      injection e9 with e9a e9b
                      subst e9a e9b
                      have hsn : vb ((row.drop (j + 1)).take k2) ++ [Value.int .u8 (row.getD (j + 1 + k2) 0)] = vb ((row.drop (j + 1)).take (k2 + 1)) := by
                        rw [take_snoc_int _ k2 (by rw [List.length_drop, HN.out]; omega)]
                        simp [vb, List.getD_eq_getElem?_getD, List.getElem?_drop]
                      obtain ⟨z, hz⟩ : ∃ z, z = row.getD (j + 1 + k2) 0 := ⟨_, rfl⟩
                      rw [← hz] at ce hsn
                      have HSN := Lib.hid hsn
                      have HOW := Lib.hid (HM1.out.1.alloc (.cells #[.int .u8 z] 5))
                      have HRD := Lib.hid (Rd.of_blk (Blk.new wx 5 [.int .u8 z]) (n := 1) rfl)
                      have hlt2 : (j : Int) + 1 + (k2 : Int) < (n : Int) := by omega
                      have hb1 : ((j : Int) + 1 + (k2 : Int) == (n : Int)) = false := by simp; omega
                      have hb2 : (j + 1 + k2 == n) = false := by simp; omega
                      clear hz hsn hrz hend
                      go_wp2_with (at_builtin; refine wpList_append_rd _ rfl (.tmp 87) (.tmp 92) 22 rfl 5 (.int .u8 0) 1 Tryd.underlying22 info5 rfl (.slice A1 k2 c1) k2 _ rfl HOW.out _ 1 1 _ rfl HRD.out (by intro u hu; rw [List.mem_singleton.1 hu]; rfl) (by unfold maxLen; omega) (by omega) ?_; intro A5 c5 w5 hown5 hg5 hb5; rw [HSN.out] at hown5; have HM5 := Lib.hid (HM1.out.app hown5 hg5 (by simpa only [World.size_alloc] using hb5)); clear hown5 hg5 hb5)
                      go_roundw
                      case rel => exact ⟨k2 + 1, c5, A5, by omega, by omega, by go_num, rfl, by go_num, HM5⟩
                      case measure => simp [intOf]; omega
                  · obtain rfl : k2 = y := by omega
                    by_cases hend : j + 1 + k2 = n
                    · have herr : partsF row = .error n := by
                        rw [← HPS.out, ← HN.out]
                        exact parse_short HKR.out HS2.out HMK.out (by rw [HN.out]; omega)
                      have HF := Lib.hid (HER.out n wx herr HKX.out)
                      have hend' : (j : Int) + 1 + (k2 : Int) = (n : Int) := by omega
                      have HEQ := Lib.hid hend'
                      have hb1 : ((j : Int) + 1 + (k2 : Int) == (n : Int)) = true := by simpa using hend'
                      have hb2 : (j + 1 + k2 == n) = true := by simpa using hend
                      clear herr hend' hend
                      go_wp2
                      have hf := HF.out
                      rw [← HEQ.out] at hf
                      exact hf
                    · obtain ⟨g9, o9, e9, ce, hrz, _, _⟩ := HCELL.out wx (j + 1 + k2) HKX.out (by omega)
                      injection e9 with e9
                      injection e9 with e9a e9b
                      subst e9a e9b
                      obtain ⟨z, hz⟩ : ∃ z, z = row.getD (j + 1 + k2) 0 := ⟨_, rfl⟩
                      rw [← hz] at ce
                      have HZ := Lib.hid hz
                      have hlt2 : (j : Int) + 1 + (k2 : Int) < (n : Int) := by omega
                      have hb1 : ((j : Int) + 1 + (k2 : Int) == (n : Int)) = false := by simp; omega
                      have hb2 : (j + 1 + k2 == n) = false := by simp; omega
                      clear hz hrz
                      by_cases hz32 : z = 32
                      · subst hz32
                        obtain ⟨bs, hbs⟩ : ∃ bs, bs = (row.drop (j + 1)).take k2 := ⟨_, rfl⟩
                        have hbl2 : bs.length = k2 := by rw [hbs, List.length_take, List.length_drop, HN.out]; omega
                        rw [← hbs] at HM1
                        have HBS := Lib.hid hbs
                        have HBL := Lib.hid hbl2
                        have HMA := Lib.hid ((HP.out.row.keep HM1.out.2.1).1.alloc (.cells #[Value.slice A1 k2 c1] 22))
                        have HRD2 := Lib.hid (Rd.of_blk (Blk.new wx 22 [Value.slice A1 k2 c1]) (n := 1) rfl)
                        clear hbs hbl2
                        go_wp2_with (at_builtin; refine wpList_append_rd _ rfl (.tmp 110) (.tmp 112) 24 rfl 22 (.slice none 0 0) 24 Tryd.underlying24 infoSl rfl (.slice A2 m c2) m vals rfl HMA.out _ 1 1 _ rfl HRD2.out (by intro u hu; rw [List.mem_singleton.1 hu]; rfl) (by unfold maxLen; omega) (by omega) ?_; intro A5 c5 w5 hown5 hg5 hb5; have HP5 := Lib.hid (PartsV.step HP.out HBL.out HM1.out.2.1 HM1.out.1 HM1.out.2.2 hown5 hg5 (by simpa only [World.size_alloc] using hb5)); clear hown5 hg5 hb5)
                        go_roundw
                        case rel =>
                          refine ⟨j + 1 + k2 + 1, A5, m + 1, c5, _, pss ++ [bs], f, by omega, by omega, by go_num, rfl, HP5.out, by omega, ?_⟩
                          rw [← HPS.out, parse_step HKR.out HS2.out HMK.out (by rw [HN.out]; omega) (by rw [← HZ.out]; simp), ← HBS.out]
                        case measure => simp [intOf]; omega
                      · have herr : partsF row = .error (j + 1 + k2) := by
                          rw [← HPS.out]
                          exact parse_last HKR.out HS2.out HMK.out (by rw [HN.out]; omega) (by rw [← HZ.out]; exact hz32)
                        have hf9 := HER.out (j + 1 + k2) wx herr HKX.out
                        rw [show (((j + 1 + k2 : Nat)) : Int) = (j : Int) + 1 + (k2 : Int) by omega] at hf9
                        have HF := Lib.hid hf9
                        clear herr hf9
                        go_wp2
                        exact HF.out
              · have herr : partsF row = .error j := by
                  rw [← HPS.out]
                  refine parse_mark HKR.out HS2.out (.inr (.inr ?_))
                  rw [← HBB.out]; exact h32
                have HF := Lib.hid (HER.out j wo herr HKP.out)
                clear herr
                rcases hcase with hb1 | ⟨hb1, hb2⟩
                all_goals
                  go_wp2
                  exact HF.out
        · obtain rfl : j = n := by omega
          have herr : partsF row = .error j := by
            rw [← HPS.out]
            refine parse_mark (n := y) HKR.out ?_ (.inl HN.out.symm)
            rw [← HSC.out]
            exact scan_end (List.getElem?_eq_none (by rw [HN.out]; exact Nat.le_refl _))
          have HF := Lib.hid (HER.out j wo herr HKP.out)
          clear herr
          have hq1 : (j == k) = false := by simp; omega
          have hq2 : ((j : Int) == (k : Int)) = false := by simp; omega
          go_wp2
          exact HF.out
    · have hend : partsF row = .ok pss := by rw [← hps]; exact parse_end (by rw [HN.out]; omega)
      have HF := Lib.hid (HOK.out pss A2 m c2 vals wo hend hp)
      clear hp hps hend
      go_wp2
      exact HF.out
end Go.Proofs.YtnlnbgjpbnjjfaaDoor
