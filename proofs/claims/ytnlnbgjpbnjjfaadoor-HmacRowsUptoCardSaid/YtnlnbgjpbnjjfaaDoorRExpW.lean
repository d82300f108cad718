/-
  WALKS: the reference's Expand (affidavitref07.Expand).
-/
import Derived.Test.YtnlnbgjpbnjjfaaDoorRMacW
set_option linter.unusedSimpArgs false
namespace Go.Proofs.YtnlnbgjpbnjjfaaDoor
open Go Go.RowKit Go.Sha Go.Aff Go.Mac

theorem Mine.older {w w1 wr : World} {e : TypeId} {A : Option Addr} {m c : Nat} {xs : List Value} (h : Mine w1 wr e A m c xs) (hk : Keeps (fun _ => False) w w1) : Mine w wr e A m c xs := ⟨h.1, hk.trans h.2.1 (fun _ _ h => h), fun g hg => Nat.le_trans hk.size (h.2.2 g hg)⟩
theorem mine_cap {w wr : World} {e : TypeId} {A : Option Addr} {m c : Nat} {xs : List Value} (h : Mine w wr e A m c xs) : m ≤ c := by
  rcases Nat.eq_zero_or_pos m with rfl | hp
  · omega
  · obtain ⟨g, _, _, h3⟩ := h.form hp
    exact h3
/-- An own empty row of a literal, appended to. -/
theorem mine_lit {w w' : World} {A' : Option Addr} {n' c' : Nat} {zs : List Value} (hown : w'.ownsRow 0 5 1 (.slice A' n' c') n' zs) (hg : (w.alloc (.cells #[] 5)).grownBy w' (Value.slice (some ⟨w.heap.size, 0, none⟩) 0 0).ownBlock)
    (hb : (Value.slice A' n' c').ownBlock = (Value.slice (some ⟨w.heap.size, 0, none⟩) 0 0).ownBlock ∨ (Value.slice A' n' c').ownBlock = some (w.heap.size + 1)) : Mine w w' 5 A' n' c' zs := by
  have ho : (w.alloc (.cells #[] 5)).ownsRow 0 5 1 (.slice (some ⟨w.heap.size, 0, none⟩) 0 0) 0 [] := World.ownsRow_made (base := 0) (e := 5) (size := 1) w #[] 0 (by omega) (by unfold maxLen; omega) rfl
  have hm : Mine w (w.alloc (.cells #[] 5)) 5 (some ⟨w.heap.size, 0, none⟩) 0 0 [] := ⟨ho, (Keeps.refl _ w).alloc _, fun g e => by have e1 : some w.heap.size = some g := e; injection e1 with e1; omega⟩
  exact hm.app0 hown hg (by simpa only [World.size_alloc] using hb)

set_option maxHeartbeats 2000000 in
set_option maxRecDepth 100000 in
theorem rexpand_any (w : World) (A B : Option Addr) (n c m d : Nat) (key info : List Int) (N : Nat)
    (hn : key.length = n) (hx : Rd w A n (vb key)) (bx : IsBytes key) (hm : n ≤ 140737488351232)
    (hn' : info.length = m) (hy : Rd w B m (vb info)) (by' : IsBytes info) (hm' : m ≤ 140737488351232) (hN : N ≤ 8160) :
    Calls Tryd.prog 38 #[.slice A n c, .slice B m d, .int .i64 N] w fun e w' => ∃ A' c', e = .returned (.slice A' N c') ∧ Rd w' A' N (vb (expF key info N)) ∧ Keeps (fun _ => False) w w' := by
  have HY := Lib.hid hy
  have HSUM : Hid (∀ (W : World) (t nb cb : Nat) (Ab : Option Addr), Keeps (fun _ => False) w W → nb = (tF key info t ++ info ++ [((t + 1 : Nat) : Int)]).length → t < 255 → Rd W Ab nb (vb (tF key info t ++ info ++ [((t + 1 : Nat) : Int)])) → Calls Tryd.prog 30 #[.slice A n c, .slice Ab nb cb] W fun e w' => e = .returned (.agg (vb (tF key info (t + 1))).toArray) ∧ Keeps (fun _ => False) W w') := Lib.hid fun W t nb cb Ab hk hnb ht hr => by
    refine rmac_any W A Ab n c nb cb key _ hn (hx.keep hk (no_out _ _)) bx hm hnb.symm hr ?_ ?_
    · intro z hz
      rcases List.mem_append.1 hz with h1 | h1
      · rcases List.mem_append.1 h1 with h2 | h2
        · exact tF_bytes _ _ _ z h2
        · exact by' z h2
      · rw [List.mem_singleton.1 h1]; omega
    · have h32 : (tF key info t).length ≤ 32 := by
        cases t with
        | zero => simp [tF]
        | succ t => rw [tF_length]; omega
      rw [hnb]
      simp only [List.length_append, List.length_cons, List.length_nil]
      omega
  have HL : Hid (∀ t, (tF key info t).length ≤ 32) := Lib.hid fun t => by
    cases t with
    | zero => simp [tF]
    | succ t => rw [tF_length]; omega
  have HTL : Hid (∀ t, (vb (tF key info (t + 1))).length = 32) := Lib.hid fun t => by rw [vb_length, tF_length]
  have HEND : Hid (∀ (W : World) (t : Nat) (Ao : Option Addr) (co : Nat), Mine w W 5 Ao (32 * t) co (vb (expL key info t)) → N ≤ 32 * t → 32 * t < N + 32 → Rd W (cutA Ao co 0) N (vb (expF key info N))) := Lib.hid fun W t Ao co h h1 h2 => by
    have e1 : (expL key info t).take N = expF key info N := by
      unfold expF
      have : t = tN N := by unfold tN; omega
      rw [this]
    have h3 := (Rd.of_own h.1).cutA (l := 0) (c := co) (by omega) (mine_cap h)
    have h4 := h3.take (k := N) (by omega)
    rw [← e1]
    simpa [vb, List.map_take] using h4
  have HN' := Lib.hid hn'
  have HE1 : Hid (∀ t, vb (expL key info t) ++ vb (tF key info (t + 1)) = vb (expL key info (t + 1))) := Lib.hid fun t => by simp [vb, expL]
  have HR0 : Hid (TwoR w w none (32 * 0) 0 (vb (expL key info 0)) none 0 0 (vb (tF key info 0))) := Lib.hid ⟨⟨World.ownsRow_nil _ _ _ _, Keeps.refl _ _, fun g h => by cases h⟩, ⟨World.ownsRow_nil _ _ _ _, Keeps.refl _ _, fun g h => by cases h⟩, fun g h => by cases h⟩
  clear hx bx hn hn' hy by'
  go_enter Tryd.func38, Tryd.ntmps38
  go_wp2
  go_loopw [7, 8, 9] (fun O L i wr => ∃ (t : Nat) (Ao : Option Addr) (co : Nat) (Al : Option Addr) (nl cl : Nat), t ≤ 255 ∧ O = .slice Ao (32 * t) co ∧ L = .slice Al nl cl ∧ i = .int .i64 ((t + 1 : Nat) : Int) ∧ 32 * t < N + 32 ∧ nl = (tF key info t).length ∧ TwoR w wr Ao (32 * t) co (vb (expL key info t)) Al nl cl (vb (tF key info t))) (fun O _ _ _ => N + 32 - lenOf O)
  case atStart => exact ⟨0, none, 0, none, 0, 0, by omega, rfl, rfl, rfl, by omega, rfl, HR0.out⟩
  case round =>
    clear HR0
    obtain ⟨t, Ao, co, Al, nl, cl, ht, rfl, rfl, rfl, hlt32, hnl, hr⟩ := hrel
    have HR := Lib.hid hr
    have h32 := HL.out t
    rw [← hnl] at h32
    have HNL := Lib.hid hnl
    clear hr hnl
    by_cases hlt : 32 * t < N
    · have hlt' : 32 * (t : Int) < (N : Int) := by omega
      have ht255 : (t : Int) < 255 := by omega
      obtain ⟨TL, hTL⟩ : ∃ TL, TL = vb (tF key info t) := ⟨_, rfl⟩
      obtain ⟨IV, hIV⟩ : ∃ IV, IV = vb info := ⟨_, rfl⟩
      have HYW : Hid (∀ W, Keeps (fun _ => False) wr W → Rd W B m IV) := Lib.hid fun W hk => by rw [hIV]; exact HY.out.keep (HR.out.one.2.1.trans hk (fun _ _ h => h)) (no_out _ _)
      have HTB : Hid (∀ u ∈ TL, u.oneCell' = true) := Lib.hid (by rw [hTL]; exact vb_one _)
      have HIB : Hid (∀ u ∈ IV, u.oneCell' = true) := Lib.hid (by rw [hIV]; exact vb_one _)
      have HRL : Hid (Rd (wr.alloc (.cells #[] 5)) Al nl TL) := Lib.hid (by rw [hTL]; exact (Rd.of_own HR.out.two.1).alloc _)
      have HO0 : Hid ((wr.alloc (.cells #[] 5)).ownsRow 0 5 1 (.slice (some ⟨wr.heap.size, 0, none⟩) 0 0) 0 []) := Lib.hid (World.ownsRow_made (base := 0) (e := 5) (size := 1) wr #[] 0 (by omega) (by unfold maxLen; omega) rfl)
      have HSM : Hid (∀ (W : World) (Ab : Option Addr) (cb : Nat), Mine wr W 5 Ab (nl + m + 1) cb (TL ++ IV ++ [.int .u8 ((t : Int) + 1)]) → Calls Tryd.prog 30 #[.slice A n c, .slice Ab (nl + m + 1) cb] W fun e w' => e = .returned (.agg (vb (tF key info (t + 1))).toArray) ∧ Keeps (fun _ => False) W w') := Lib.hid fun W Ab cb h => by
        refine HSUM.out W t (nl + m + 1) cb Ab (HR.out.one.2.1.trans h.2.1 (fun _ _ h => h)) (by simp [HNL.out, HN'.out]; omega) (by omega) ?_
        have := Rd.of_own h.1
        rw [hTL, hIV] at this
        simpa [vb] using this
      obtain ⟨TV, hTV⟩ : ∃ TV, TV = vb (tF key info (t + 1)) := ⟨_, rfl⟩
      have HTV1 : Hid (∀ u ∈ TV, u.oneCell' = true) := Lib.hid (by rw [hTV]; exact vb_one _)
      have HTVL : Hid (TV.length = 32) := Lib.hid (by rw [hTV]; exact HTL.out t)
      have HE2 : Hid (vb (expL key info t) ++ TV = vb (expL key info (t + 1))) := Lib.hid (by rw [hTV]; exact HE1.out t)
      have HTVV := Lib.hid hTV
      rw [← hTV] at HSM
      clear hTL hIV hTV
      go_wp2_with (first
        | (at_builtin; refine wpList_append_rd _ rfl (.tmp 18) (.tmp 19) 22 rfl 5 (.int .u8 0) 1 Tryd.underlying22 info5 rfl (.slice (some ⟨wr.heap.size, 0, none⟩) 0 0) 0 [] rfl HO0.out Al nl cl TL rfl HRL.out HTB.out (by unfold maxLen; omega) (by omega) ?_; intro A1 c1 w1 hown hg hb; simp only [Nat.zero_add, List.nil_append] at hown hb ⊢; have HB1 := Lib.hid (mine_lit hown hg (by simpa only [World.size_alloc] using hb)); have HI1 := Lib.hid (HYW.out _ HB1.out.2.1); clear hown hg hb)
        | (at_builtin; refine wpList_append_rd _ rfl (.tmp 21) (.tmp 22) 22 rfl 5 (.int .u8 0) 1 Tryd.underlying22 info5 rfl (.slice A1 nl c1) nl TL rfl HB1.out.1 B m d IV rfl HI1.out HIB.out (by unfold maxLen; omega) (by omega) ?_; intro A2 c2 w2 hown hg hb; have HB2 := Lib.hid (HB1.out.app0 hown hg hb); have HO2 := Lib.hid ((HB2.out.keep ((Keeps.refl _ w2).alloc (.cells #[.int .u8 ((t : Int) + 1)] 5))).1); have HD2 := Lib.hid (Rd.of_blk (Blk.new w2 5 [.int .u8 ((t : Int) + 1)]) (n := 1) rfl); clear hown hg hb)
        | (at_builtin; refine wpList_append_rd _ rfl (.tmp 24) (.tmp 27) 22 rfl 5 (.int .u8 0) 1 Tryd.underlying22 info5 rfl (.slice A2 (nl + m) c2) (nl + m) _ rfl HO2.out _ 1 1 _ rfl HD2.out (by intro u hu; rw [List.mem_singleton.1 hu]; rfl) (by unfold maxLen; omega) (by omega) ?_; intro A3 c3 w3 hown hg hb; have HB3 := Lib.hid (Mine.app HB2.out hown hg (by simpa only [World.size_alloc] using hb)); clear hown hg hb)
        | (go_at_call 30; refine (HSM.out w3 A3 c3 HB3.out).mono ?_; rintro e w4 ⟨rfl, hk4⟩; have HK4 := Lib.hid (HB3.out.2.1.trans hk4 (fun _ _ h => h)); have HZ4 := Lib.hid (Blk.new w4 40 (List.replicate 32 (Value.int .u8 0))); clear hk4)
        | ((with_reducible show wpList _ _ _ (⟨none, Op.store 40 _ _, _, _, _, _⟩ :: _) _ _); refine wpList_store_whole rfl 40 _ _ rfl TV rfl rfl HZ4.out (by rw [HTVL.out]; simp) (by rw [HTVL.out]; kernel_rfl) HTV1.out ?_; have hb5 := HZ4.out.setRow TV; have hk5 := (HK4.out.alloc (.cells (List.replicate 32 (Value.int .u8 0)).toArray 40)).setRow (.inr HK4.out.size) TV.toArray; refine gen_world (fun W => Blk W w4.heap.size 40 TV ∧ Keeps (fun _ => False) wr W) ⟨hb5, hk5⟩ ?_; clear hb5 hk5; rintro w5 ⟨hb5, hk5⟩; have HK5 := Lib.hid hk5; have HO5 := Lib.hid (World.ownsRow_made (base := 0) (e := 5) (size := 1) w5 #[] 0 (by omega) (by unfold maxLen; omega) rfl); have HD5 := Lib.hid ((Rd.of_blk hb5 HTVL.out).alloc (.cells #[] 5)); clear hb5 hk5)
        | (at_builtin; refine wpList_append_rd _ rfl (.tmp 32) (.tmp 33) 22 rfl 5 (.int .u8 0) 1 Tryd.underlying22 info5 rfl (.slice (some ⟨w5.heap.size, 0, none⟩) 0 0) 0 [] rfl HO5.out _ 32 32 TV rfl HD5.out HTV1.out (by unfold maxLen; omega) (by omega) ?_; intro A6 c6 w6 hown hg hb; simp only [Nat.zero_add, List.nil_append] at hown hb ⊢; have hm6 := mine_lit hown hg (by simpa only [World.size_alloc] using hb); have hk6 := HK5.out.trans hm6.2.1 (fun _ _ h => h); have HR6 : Hid (TwoR w w6 Ao (32 * t) co (vb (expL key info t)) A6 32 c6 TV) := Lib.hid ⟨HR.out.one.keep hk6, Mine.older hm6 (HR.out.one.2.1.trans HK5.out (fun _ _ h => h)), fun g h1 h2 => by have := hm6.2.2 g h2; have := (HR.out.one.1.lt g h1).2; have := HK5.out.size; omega⟩; have HD6 := Lib.hid (Rd.of_own hm6.1); clear hown hg hb hm6 hk6)
        | (at_builtin; refine wpList_append_rd _ rfl (.tmp 35) (.tmp 36) 22 rfl 5 (.int .u8 0) 1 Tryd.underlying22 info5 rfl (.slice Ao (32 * t) co) (32 * t) _ rfl HR6.out.one.1 A6 32 c6 TV rfl HD6.out HTV1.out (by unfold maxLen; omega) (by omega) ?_; intro A7 c7 w7 hown hg hb; rw [HE2.out] at hown; have HR7 := Lib.hid (HR6.out.app0 hown hg hb); clear hown hg hb))
      go_roundw
      case rel => exact ⟨t + 1, A7, c7, A6, 32, c6, by omega, rfl, rfl, by go_num, by omega, (tF_length _ _ _).symm, by rw [← HTVV.out]; exact HR7.out⟩
      case measure => simp [lenOf]; omega
    · have hcut := cut_h (P := Tryd.prog) Tryd.underlying22 (by kernel_rfl) Ao (32 * t) co N N rfl (by have := mine_cap HR.out.one; omega)
      have HE := Lib.hid (HEND.out wr t Ao co HR.out.one (by omega) hlt32)
      have hlt' : ¬ (32 * (t : Int) < (N : Int)) := by omega
      obtain ⟨A1, hA1⟩ : ∃ A1, A1 = cutA Ao co 0 := ⟨_, rfl⟩
      rw [← hA1] at hcut HE
      have HKE := Lib.hid HR.out.one.2.1
      clear hA1
      go_wp2
      go_ret
      exact ⟨A1, ⟨co, rfl⟩, HE.out, HKE.out⟩
end Go.Proofs.YtnlnbgjpbnjjfaaDoor
