/-
  WALKS: the statement ShaPads.
-/
import Derived.Test.YtgblndddcbfdiaaDoorNumW
import Derived.Test.YtgblndddcbfdiaaDoorPadsP
namespace Go.Proofs.YtgblndddcbfdiaaDoor
open Go Go.RowKit Go.Sha Go.Aff

set_option maxHeartbeats 4000000 in
set_option maxRecDepth 100000 in
theorem pads_any (w : World) (hG : Glob w) (n : Nat) : Calls Tryd.prog 4 #[.int .u64 n] w fun e w' => e = .returned (.bool true) ∧ Keeps (fun _ => False) w w' := by
  have HG := Lib.hid hG
  clear hG
  by_cases h : n < 2305843009213693952
  · have hP := Pad_any w n h
    have hL := padLen_ge n
    have hst : ∀ k, k + 1 < padLen n → bits .or .u64 (IntKind.u64.wrap (told n k * 256)) ((padF n).getD (k + 1) 0) = told n (k + 1) := fun k => told_step n k h
    have hz : ∀ k, k + 9 < padLen n → (padF n).getD (k + 1) 0 = 0 := padF_zero n
    have hr : ∀ k, 0 ≤ told n k ∧ told n k ≤ 8 * (n : Int) := told_range n
    have hby : ∀ k, 0 ≤ (padF n).getD k 0 ∧ (padF n).getD k 0 < 256 := by
      intro k
      rw [List.getD_eq_getElem?_getD]
      cases hk : (padF n)[k]? with
      | none => simp
      | some x => exact padF_bytes n x (List.mem_of_getElem? hk)
    have h0 : told n 0 = 0 := told_zero n h
    have ha : told n (padLen n - 1) = 8 * (n : Int) := told_all n
    have hmod : ((n : Int) + ((padLen n : Nat) : Int)) % 64 = 0 := by have := padLen_whole n; omega
    have hlen : (vb (padF n)).length = padLen n := by have := padK_length n 8 (by omega); simpa [vb, padF] using this
    have hcell : ∀ (wx : World) (k : Nat), Blk wx w.heap.size 5 (vb (padF n)) → k < padLen n → wx.cell? ⟨w.heap.size, k, none⟩ = some (.int .u8 ((padF n).getD k 0)) := by
      intro wx k hb hk
      rw [hb.cell, List.getElem?_eq_getElem (by rw [hlen]; exact hk)]
      have hk' : k < (padF n).length := by simpa [vb] using (by rw [hlen]; exact hk : k < (vb (padF n)).length)
      simp [vb, hk']
    obtain ⟨m, hm⟩ : ∃ m : Int, m = n := ⟨_, rfl⟩
    obtain ⟨PL, hPL⟩ : ∃ PL, PL = padLen n := ⟨_, rfl⟩
    obtain ⟨T, hT⟩ : ∃ T, T = told n := ⟨_, rfl⟩
    obtain ⟨PB, hPB⟩ : ∃ PB : Nat → Int, PB = fun k => (padF n).getD k 0 := ⟨_, rfl⟩
    obtain ⟨cs, hcs⟩ : ∃ cs, cs = vb (padF n) := ⟨_, rfl⟩
    have hmb : 0 ≤ m ∧ m < 2305843009213693952 := by omega
    have hPB' : ∀ k, (padF n).getD k 0 = PB k := fun k => by rw [hPB]
    have hB0 : PB 0 = 128 := by rw [← hPB']; rfl
    simp only [hPB', ← hT, ← hPL, ← hcs, ← hm] at hP hL hst hz hr h0 ha hmod hcell hby ⊢
    have HC := Lib.hid hcell
    have HP := Lib.hid hP
    have HST := Lib.hid hst
    have HZ := Lib.hid hz
    have HR := Lib.hid hr
    have H0 := Lib.hid h0
    have HA := Lib.hid ha
    have HB := Lib.hid hby
    have HB0 := Lib.hid hB0
    obtain ⟨hm0, hm1⟩ := hmb
    clear hcell hP hst hz hr h0 ha hby hB0 hm hPL hT hPB hPB' hcs hlen h
    go_enter Tryd.func4, Tryd.ntmps4
    go_wp2_with (go_at_call 16; refine HP.out.mono ?_; rintro e w1 ⟨rfl, hb1, hk1⟩; have c0 := HC.out _ 0 hb1 (by omega); rw [HB0.out] at c0; have HB1 := Lib.hid hb1; have HK1 := Lib.hid hk1; clear hb1 hk1)
    clear c0
    go_loop [5, 6, 7, 56] (fun t _ _ i => ∃ k : Nat, k ≤ PL - 1 ∧ i = .int .i64 k ∧ t = .int .u64 (T k)) (fun _ _ _ i => PL - (intOf i).toNat)
    case atStart => exact ⟨0, by omega, rfl, by rw [H0.out]⟩
    case round =>
      obtain ⟨k, hk, rfl, rfl⟩ := hrel
      have hr1 := (HR.out k).1
      have hr2 := (HR.out k).2
      by_cases hlt : k < PL - 1
      · have hc := HC.out _ (1 + k) HB1.out (by omega)
        rw [show PB (1 + k) = PB (k + 1) by rw [Nat.add_comm]] at hc
        have hb1 := (HB.out (k + 1)).1
        have hb2 := (HB.out (k + 1)).2
        have hs := HST.out k (by omega)
        by_cases hzz : k + 9 < PL
        · rw [HZ.out k hzz] at hc hs
          have HS := Lib.hid hs
          clear hs hb1 hb2
          go_wp2
          go_round
          case rel => exact ⟨k + 1, by omega, by go_num, by rw [← HS.out]⟩
          case measure => simp [intOf]; omega
        · obtain ⟨b, hb⟩ : ∃ b, b = PB (k + 1) := ⟨_, rfl⟩
          rw [← hb] at hc hs hb1 hb2
          have HS := Lib.hid hs
          clear hs hb
          go_wp2
          go_round
          case rel => exact ⟨k + 1, by omega, by go_num, by rw [← HS.out]⟩
          case measure => simp [intOf]; omega
      · obtain rfl : k = PL - 1 := by omega
        have hT8 : T (PL - 1) = 8 * m := HA.out
        rw [hT8]
        clear hr1 hr2 hT8
        go_wp2_with (go_at_call 15; refine (works_any _ (HG.out.keep HK1.out (fun _ h => h.elim))).mono ?_; rintro e w9 ⟨rfl, hk9⟩)
        go_ret
        exact ⟨rfl, HK1.out.trans hk9 (fun _ _ h => h)⟩
  · have h' : 2305843009213693952 ≤ (n : Int) := by omega
    obtain ⟨m, hm⟩ : ∃ m : Int, m = n := ⟨_, rfl⟩
    rw [← hm] at h' ⊢
    clear hm h
    go_enter Tryd.func4, Tryd.ntmps4
    go_wp2_with (first
      | (go_at_call 16; refine (Pad_long _ m h').mono ?_; rintro e w' ⟨rfl, rfl⟩)
      | (go_at_call 17; refine (number_errno _ 3 rfl).mono ?_; rintro e w' ⟨rfl, rfl⟩)
      | (go_at_call 15; refine (works_any _ HG.out).mono ?_; rintro e w9 ⟨rfl, hk9⟩))
    go_ret
    exact ⟨rfl, hk9⟩
end Go.Proofs.YtgblndddcbfdiaaDoor
