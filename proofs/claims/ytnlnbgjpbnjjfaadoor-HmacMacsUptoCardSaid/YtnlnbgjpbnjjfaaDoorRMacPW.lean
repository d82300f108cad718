/-
  WALKS: the reference's joined, and Of of parts.
-/
import Derived.Test.YtnlnbgjpbnjjfaaDoorLentAllW
import Derived.Test.YtnlnbgjpbnjjfaaDoorRMacW
set_option linter.unusedSimpArgs false
namespace Go.Proofs.YtnlnbgjpbnjjfaaDoor
open Go Go.RowKit Go.Sha Go.Aff Go.Mac

theorem vb_app (a b : List Int) : vb a ++ vb b = vb (a ++ b) := by simp [vb]
set_option maxHeartbeats 1000000 in
set_option maxRecDepth 100000 in
theorem joined_any (w : World) (A : Option Addr) (n c : Nat) (pss : List (List Int)) (N : Nat) (hnn : pss.length = n) (hr : RdPartsO (fun _ => False) w A pss) (hn : n ≤ 1048576) (hN : pss.flatten.length = N) (hbig : N ≤ 1048576) :
    Calls Tryd.prog 48 #[.slice A n c] w fun e w' => ∃ A' c', e = .returned (.slice A' N c') ∧ Mine w w' 5 A' N c' (vb pss.flatten) := by
  have HAT : Hid (∀ (wr : World) (k : Nat), Keeps (fun _ => False) w wr → k < n → ∃ g o bs A' c', A = some ⟨g, o, none⟩ ∧ pss[k]? = some bs ∧ wr.cell? ⟨g, o + k, none⟩ = some (.slice A' bs.length c') ∧ Rd wr A' bs.length (vb bs) ∧ IsBytes bs ∧ bs.length ≤ c' ∧ bs.length ≤ 140737488351232) := Lib.hid fun wr k hk hlt => hr.at hk (fun _ h => h) (by omega)
  have HLE : Hid (∀ k bs, pss[k]? = some bs → (pss.take k).flatten.length + bs.length ≤ N ∧ vb (pss.take k).flatten ++ vb bs = vb (pss.take (k + 1)).flatten ∧ (pss.take k).flatten.length + bs.length = (pss.take (k + 1)).flatten.length) := Lib.hid fun k bs h => by
    have := part_le pss k bs h
    rw [take_flat' pss k bs h]
    exact ⟨by omega, vb_app _ _, by simp⟩
  have HTK : Hid (pss.take n = pss) := Lib.hid (by rw [← hnn, List.take_length])
  have HNN := Lib.hid hN
  clear hr hnn hN
  go_enter Tryd.func48, Tryd.ntmps48
  go_wp2
  go_loopw [3, 5, 8] (fun v _ i wr => ∃ (k m : Nat) (A' : Option Addr) (c' : Nat), k ≤ n ∧ i = .int .i64 k ∧ v = .slice A' m c' ∧ Hid ((pss.take k).flatten.length = m) ∧ Hid (Mine w wr 5 A' m c' (vb (pss.take k).flatten))) (fun _ _ i _ => n - (intOf i).toNat)
  case atStart => exact ⟨0, 0, none, 0, by omega, rfl, rfl, Lib.hid rfl, Lib.hid ⟨World.ownsRow_nil _ _ _ _, Keeps.refl _ _, fun g h => by cases h⟩⟩
  case round =>
    obtain ⟨k, m, A2, c2, hk, rfl, rfl, HM, HO⟩ := hrel
    by_cases hlt : k < n
    · obtain ⟨g, o, bs, A1, c1, hA, hbs, hcell, hr1, hb1, hc1, hrb⟩ := HAT.out wr k HO.out.2.1 hlt
      subst hA
      obtain ⟨hle, he, hl⟩ := HLE.out k bs hbs
      rw [HM.out] at hle hl
      obtain ⟨q, hq⟩ : ∃ q, q = bs.length := ⟨_, rfl⟩
      rw [← hq] at hle hl hcell hr1
      have HE := Lib.hid he
      have HL := Lib.hid hl
      have HR1 := Lib.hid hr1
      clear he hl hr1 hb1 hc1 hq hbs hrb
      go_wp2_with (at_builtin; refine wpList_append_rd _ rfl (.tmp 12) (.tmp 13) 22 rfl 5 (.int .u8 0) 1 Tryd.underlying22 info5 rfl (.slice A2 m c2) m _ rfl HO.out.1 A1 q c1 _ rfl HR1.out (vb_one _) (by unfold maxLen; omega) (by omega) ?_; intro A5 c5 w5 hown5 hg5 hb5; rw [HE.out] at hown5; have HN := Lib.hid (HO.out.app0 hown5 hg5 hb5); clear hown5 hg5 hb5)
      go_roundw
      case rel => exact ⟨k + 1, m + q, A5, c5, by omega, by go_num, rfl, Lib.hid HL.out.symm, HN⟩
      case measure => simp [intOf]; omega
    · obtain rfl : k = n := by omega
      rw [HTK.out] at HM HO
      rw [HNN.out] at HM
      obtain rfl := HM.out
      clear HM
      go_wp2
      go_ret
      exact ⟨_, _, rfl, HO.out⟩

set_option maxHeartbeats 1000000 in
set_option maxRecDepth 100000 in
theorem rmof_any (w : World) (A B : Option Addr) (n c m d : Nat) (key : List Int) (pss : List (List Int)) (hn : key.length = n) (hx : Rd w A n (vb key)) (bx : IsBytes key) (hm : n ≤ 140737488351232)
    (hnn : pss.length = m) (hr : RdPartsO (fun _ => False) w B pss) (hb : ∀ bs ∈ pss, IsBytes bs) (hm' : m ≤ 1048576) (hbig : pss.flatten.length ≤ 1048576) :
    Calls Tryd.prog 27 #[.slice A n c, .slice B m d] w fun e w' => e = .returned (.agg (vb (macF key pss.flatten)).toArray) ∧ Keeps (fun _ => False) w w' := by
  have hfb : IsBytes pss.flatten := fun x hx => by
    obtain ⟨bs, h1, h2⟩ := List.mem_flatten.1 hx
    exact hb bs h1 x h2
  obtain ⟨N, hN⟩ : ∃ N, pss.flatten.length = N := ⟨_, rfl⟩
  obtain ⟨W1, hW1⟩ : ∃ W1, W1 = w.alloc (.cells (List.replicate 32 (Value.int .u8 0)).toArray 40) := ⟨_, rfl⟩
  have hk1 : Keeps (fun _ => False) w W1 := by rw [hW1]; exact (Keeps.refl _ w).alloc _
  have hz : Blk W1 w.heap.size 40 (List.replicate 32 (Value.int .u8 0)) := by rw [hW1]; exact Blk.new _ _ _
  have HJ := Lib.hid (joined_any W1 B m d pss N hnn (hr.keep hk1 (fun _ h => h)) hm' hN (by omega))
  have HSM : Hid (∀ W Ab cb, Mine W1 W 5 Ab N cb (vb pss.flatten) → Calls Tryd.prog 30 #[.slice A n c, .slice Ab N cb] W fun e w' => e = .returned (.agg (vb (macF key pss.flatten)).toArray) ∧ Keeps (fun _ => False) W w') := Lib.hid fun W Ab cb h =>
    rmac_any W A Ab n c N cb key _ hn (hx.keep (hk1.trans h.2.1 (fun _ _ h => h)) (no_out _ _)) bx hm hN (Rd.of_own h.1) hfb (by omega)
  have HML : Hid ((vb (macF key pss.flatten)).length = 32) := Lib.hid (by rw [vb_length, macF_length])
  obtain ⟨MV, hMV⟩ : ∃ MV, MV = vb (macF key pss.flatten) := ⟨_, rfl⟩
  have HM1 : Hid (∀ u ∈ MV, u.oneCell' = true) := Lib.hid (by rw [hMV]; exact vb_one _)
  rw [← hMV] at HSM HML ⊢
  have HZ := Lib.hid hz
  have HK := Lib.hid hk1
  rw [hW1] at HJ HZ HK HSM
  clear hW1 hk1 hz hMV hr hb hfb hx bx hN hnn
  go_enter Tryd.func27, Tryd.ntmps27
  go_wp2_with (first
    | (go_at_call 48; refine HJ.out.mono ?_; rintro e w5 ⟨A5, c5, rfl, hm5⟩; have HM5 := Lib.hid hm5; clear hm5)
    | (go_at_call 30; refine (HSM.out w5 A5 c5 HM5.out).mono ?_; rintro e w6 ⟨rfl, hk6⟩; have HZ6 := Lib.hid ((HM5.out.2.1.trans hk6 (fun _ _ h => h)).blk HZ.out (fun h => h)); have HK6 := Lib.hid ((HK.out.trans HM5.out.2.1 (fun _ _ h => h)).trans hk6 (fun _ _ h => h)); clear hk6)
    | ((with_reducible show wpList _ _ _ (⟨none, Op.store 40 _ _, _, _, _, _⟩ :: _) _ _); refine wpList_store_whole rfl 40 _ _ rfl MV rfl rfl HZ6.out (by rw [HML.out]; simp) (by rw [HML.out]; kernel_rfl) HM1.out ?_))
  refine bodyPost_ret (results_blk rfl _ _ rfl (HZ6.out.setRow MV) Tryd.underlying40 rfl (by rw [HML.out]; kernel_rfl)) rfl ⟨rfl, HK6.out.setRow (.inr (Nat.le_refl _)) _⟩
end Go.Proofs.YtnlnbgjpbnjjfaaDoor
