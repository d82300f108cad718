/-
  WALK: the book's root of leaves.
-/
import Derived.Test.YtknecjjdegngfaaDoorSplitW
import Derived.Test.YtknecjjdegngfaaDoorAppendW
import Derived.Test.YtknecjjdegngfaaDoorFoldRW
set_option linter.unusedSimpArgs false
namespace Go.Book
open Go Go.Aff Go.Sha
def brootF (ds : List (List Int)) : List Int := rootG emptyF pairF ds
end Go.Book
namespace Go.Proofs.YtknecjjdegngfaaDoor
open Go Go.RowKit Go.Sha Go.Aff Go.Book
theorem dig_root {ds : List (List Int)} (h : IsDigs ds) : IsDig (brootF ds) := by
  unfold brootF
  by_cases h2 : 2 ≤ ds.length
  · rw [root_two _ _ h2]
    exact dig_pair _ _
  · match ds, h, h2 with
    | [], _, _ => rw [rootG]; exact dig_empty
    | [d], h, _ => rw [root_one]; exact h d (by simp)
    | _ :: _ :: _, _, h2 => exact absurd (by simp) h2
set_option maxRecDepth 100000 in
set_option maxHeartbeats 4000000 in
theorem broot_any : ∀ (N : Nat) (ds : List (List Int)) (w : World) (_ : Glob w) (A : Option Addr) (c : Nat), RdD w A N ds → N ≤ c → N ≤ 65536 →
    Calls Tryd.prog 65 #[.slice A N c] w fun e w' => e = .returned (.agg (vb (brootF ds)).toArray) ∧ Keeps (fun _ => False) w w' := by
  intro N
  induction N using Nat.strongRecOn with
  | _ N ih =>
  intro ds w hG A c hr hc hN
  obtain ⟨W1, hW1⟩ : ∃ W1, W1 = w.alloc (.cells (List.replicate 32 (Value.int .u8 0)).toArray 24) := ⟨_, rfl⟩
  have hk1 : Keeps (fun _ => False) w W1 := by rw [hW1]; exact (Keeps.refl _ w).alloc _
  have HZ : Hid (Blk W1 w.heap.size 24 (List.replicate 32 (Value.int .u8 0))) := Lib.hid (by rw [hW1]; exact Blk.new _ _ _)
  have HK1 := Lib.hid hk1
  rcases Nat.lt_or_ge N 2 with hsm | hbig
  · rcases Nat.eq_zero_or_pos N with h0 | h0
    · subst h0
      obtain rfl : ds = [] := List.eq_nil_of_length_eq_zero hr.1
      have e0 : brootF [] = emptyF := by unfold brootF; rw [rootG]; rfl
      rw [e0]
      obtain ⟨DV, hDV⟩ : ∃ DV, DV = vb (emptyF) := ⟨_, rfl⟩
      have HD1 : Hid (∀ u ∈ DV, u.oneCell' = true) := Lib.hid (by rw [hDV]; exact vb_one _)
      have HDL : Hid (DV.length = 32) := Lib.hid (by rw [hDV, vb_length]; exact (dig_empty).1)
      have HIN : Hid ((Tryd.prog.info? 24).map (·.size) = some DV.length) := Lib.hid (by rw [HDL.out]; kernel_rfl)
      have HE := Lib.hid (empty_any W1 (hG.keep hk1 (fun _ h => h.elim)))
      rw [← hDV] at HE ⊢
      rw [hW1] at HE HZ HK1
      clear hDV hW1 hk1 hr ih hG
      go_enter Tryd.func65, Tryd.ntmps65
      go_wp2_with (first
        | (go_at_call 15; refine HE.out.mono ?_; rintro e w6 ⟨rfl, hk6⟩; have HZ9 := Lib.hid (hk6.blk HZ.out (fun h => h)); have HK9 := Lib.hid (HK1.out.trans hk6 (fun _ _ h => h)); clear hk6)
        | ((with_reducible show wpList _ _ _ (⟨none, Op.store 24 _ _, _, _, _, _⟩ :: _) _ _); refine wpList_store_whole rfl 24 _ _ rfl DV rfl rfl HZ9.out (by rw [HDL.out]; simp) HIN.out HD1.out ?_))
      refine bodyPost_ret (results_blk rfl _ _ rfl (HZ9.out.setRow DV) Tryd.underlying24 rfl HIN.out) rfl ⟨rfl, HK9.out.setRow (.inr (Nat.le_refl _)) _⟩
    · obtain rfl : N = 1 := by omega
      obtain ⟨g, o, d, rfl, hd, hl⟩ := (hr.keep hk1 (no_out _ _)).lies (k := 0) (by omega)
      have hone : ds = [d] := by
        match ds, hr.1, hd with
        | [x], _, hd => simp at hd; rw [hd]
        | [], h, _ => simp at h
        | _ :: _ :: _, h, _ => simp at h
      subst hone
      have e0 : brootF [d] = d := root_one _ _ d
      rw [e0]
      have hdd : IsDig d := hr.2.1 d (by simp)
      obtain ⟨DV, hDV⟩ : ∃ DV, DV = vb (d) := ⟨_, rfl⟩
      have HD1 : Hid (∀ u ∈ DV, u.oneCell' = true) := Lib.hid (by rw [hDV]; exact vb_one _)
      have HDL : Hid (DV.length = 32) := Lib.hid (by rw [hDV, vb_length]; exact (hdd).1)
      have HIN : Hid ((Tryd.prog.info? 24).map (·.size) = some DV.length) := Lib.hid (by rw [HDL.out]; kernel_rfl)
      rw [Nat.zero_mul, Nat.add_zero] at hl
      have HL1 := Lib.hid hl
      rw [← hDV] at HL1 ⊢
      rw [hW1] at HL1 HZ HK1
      clear hDV hW1 hk1 hr ih hG hl hd hdd e0
      go_enter Tryd.func65, Tryd.ntmps65
      go_wp2_with (first
        | ((with_reducible show wpList _ _ _ (⟨_, Op.load 24 _, _, _, _, _⟩ :: _) _ _); refine wpList_load_lies rfl 24 _ rfl _ _ _ rfl HL1.out Tryd.underlying24 rfl HIN.out ?_)
        | ((with_reducible show wpList _ _ _ (⟨none, Op.store 24 _ _, _, _, _, _⟩ :: _) _ _); refine wpList_store_whole rfl 24 _ _ rfl DV rfl rfl HZ.out (by rw [HDL.out]; simp) HIN.out HD1.out ?_))
      refine bodyPost_ret (results_blk rfl _ _ rfl (HZ.out.setRow DV) Tryd.underlying24 rfl HIN.out) rfl ⟨rfl, HK1.out.setRow (.inr (Nat.le_refl _)) _⟩
  · have hlN := hr.1
    have hs1 := spl_lt hbig
    have hs0 := spl_pos N
    have e0 : brootF ds = pairF (brootF (ds.take (spl N))) (brootF (ds.drop (spl N))) := by unfold brootF; rw [root_two _ _ (by omega), hlN]
    rw [e0]
    have HS := Lib.hid fun W => split_any N W hbig (by omega)
    obtain ⟨k, hk⟩ : ∃ k, k = spl N := ⟨_, rfl⟩
    rw [← hk] at HS hs1 hs0 ⊢
    obtain ⟨Ra, hRa⟩ : ∃ R, R = brootF (ds.take k) := ⟨_, rfl⟩
    obtain ⟨Rb, hRb⟩ : ∃ R, R = brootF (ds.drop k) := ⟨_, rfl⟩
    have da : IsDig Ra := by rw [hRa]; exact dig_root (hr.2.1.take k)
    have db : IsDig Rb := by rw [hRb]; exact dig_root (hr.2.1.drop k)
    rw [← hRa, ← hRb]
    obtain ⟨DV, hDV⟩ : ∃ DV, DV = vb (pairF Ra Rb) := ⟨_, rfl⟩
    have HD1 : Hid (∀ u ∈ DV, u.oneCell' = true) := Lib.hid (by rw [hDV]; exact vb_one _)
    have HDL : Hid (DV.length = 32) := Lib.hid (by rw [hDV, vb_length]; exact (dig_pair _ _).1)
    have HIN : Hid ((Tryd.prog.info? 24).map (·.size) = some DV.length) := Lib.hid (by rw [HDL.out]; kernel_rfl)
    have HR1 : Hid (∀ W, Keeps (fun _ => False) W1 W → Calls Tryd.prog 65 #[.slice (cutD A k 0) k k] W fun e w' => e = .returned (.agg (vb Ra).toArray) ∧ Keeps (fun _ => False) W w') := Lib.hid fun W hW => by
      rw [hRa]
      exact ih k hs1 (ds.take k) W (hG.keep (hk1.trans hW (fun _ _ h => h)) (fun _ h => h.elim)) _ _ ((hr.keep (hk1.trans hW (fun _ _ h => h)) (no_out _ _)).cutHM (by omega)) (Nat.le_refl _) (by omega)
    have HR2 : Hid (∀ W, Keeps (fun _ => False) W1 W → Calls Tryd.prog 65 #[.slice (cutD A c k) (N - k) (c - k)] W fun e w' => e = .returned (.agg (vb Rb).toArray) ∧ Keeps (fun _ => False) W w') := Lib.hid fun W hW => by
      rw [hRb]
      exact ih (N - k) (by omega) (ds.drop k) W (hG.keep (hk1.trans hW (fun _ _ h => h)) (fun _ h => h.elim)) _ _ ((hr.keep (hk1.trans hW (fun _ _ h => h)) (no_out _ _)).cut (by omega) hc) (by omega) (by omega)
    have HP : Hid (∀ W, Keeps (fun _ => False) W1 W → Calls Tryd.prog 13 #[.agg (vb Ra).toArray, .agg (vb Rb).toArray] W fun e w' => e = .returned (.agg DV.toArray) ∧ Keeps (fun _ => False) W w') := Lib.hid fun W hW => by
      rw [hDV]
      exact pair_any W (hG.keep (hk1.trans hW (fun _ _ h => h)) (fun _ h => h.elim)) Ra Rb da.1 db.1 da.2 db.2
    have HC3 : Hid (∀ W, (Instr.sliceAt 36 (.slice A N c) none (some (.int .i64 k)) (some (.int .i64 k))).run Tryd.prog W = .ok (.slice (cutD A k 0) k k) W) := Lib.hid (cutD_hm Tryd.underlying36 (by kernel_rfl) A N c k k k rfl rfl (by omega))
    have HC7 : Hid (∀ W, (Instr.sliceAt 36 (.slice A N c) (some (.int .i64 k)) none none).run Tryd.prog W = .ok (.slice (cutD A c k) (N - k) (c - k)) W) := Lib.hid (cutD_l Tryd.underlying36 (by kernel_rfl) A N c k k rfl (by omega))
    rw [← hDV]
    have hn0 : ((N : Int) == 0) = false := by simp; omega
    have hn1 : ((N : Int) == 1) = false := by simp; omega
    clear hDV hRa hRb da db e0 hk hr ih hlN hG
    go_enter Tryd.func65, Tryd.ntmps65
    go_wp2_with (go_at_call 81; refine (HS.out _).mono ?_; rintro e w9 ⟨rfl, hw9⟩; subst hw9)
    refine wp_region_last (S := Keeps (fun _ => False) W1) 10 (by kernel_rfl) (by rw [hW1]; exact (Keeps.refl (fun _ => False) _).drew) (fun hHeld => ?_)
    refine wpAnyZ_take (i := 0) (oi := ⟨some 17, _, _, _, _, _⟩) (v := ?_) rfl (by kernel_rfl) (by kernel_rfl) (by kernel_rfl) (by kernel_rfl) (fun _ _ _ h => h) (Or.inl ⟨by rfl, ?_⟩) hHeld ?_
    rotate_left
    · intro w' hSw
      go_simp
      first | done | rfl
    try simp only [Act.put, List.setIfInBounds_toArray, List.set_cons_zero, List.set_cons_succ]
    refine wpAnyZ_take (i := 1) (oi := ⟨some 18, _, _, _, _, _⟩) (v := ?_) rfl (by kernel_rfl) (by kernel_rfl) (by kernel_rfl) (by kernel_rfl) (fun _ _ _ h => h) (Or.inl ⟨by rfl, ?_⟩) hHeld ?_
    rotate_left
    · intro w' hSw
      go_simp
      first | done | rfl
    try simp only [Act.put, List.setIfInBounds_toArray, List.set_cons_zero, List.set_cons_succ]
    refine wpAnyZ_take (i := 2) (oi := ⟨some 19, _, _, _, _, _⟩) (v := ?_) rfl (by kernel_rfl) (by kernel_rfl) (by kernel_rfl) (by kernel_rfl) (fun _ _ _ h => h) (Or.inl ⟨by rfl, ?_⟩) hHeld ?_
    rotate_left
    · intro w' hSw
      go_simp
      first | done | rfl
    try simp only [Act.put, List.setIfInBounds_toArray, List.set_cons_zero, List.set_cons_succ]
    refine wpAnyZ_take (i := 3) (oi := ⟨some 20, _, _, _, _, _⟩) (v := ?_) rfl (by kernel_rfl) (by kernel_rfl) (by kernel_rfl) (by kernel_rfl) (fun _ _ _ h => h) (Or.inl ⟨by rfl, ?_⟩) hHeld ?_
    rotate_left
    · intro w' hSw
      have cv := HC3.out w'
      go_simp
      first | done | rfl
    try simp only [Act.put, List.setIfInBounds_toArray, List.set_cons_zero, List.set_cons_succ]
    refine wpAnyZ_take (i := 5) (oi := ⟨some 22, _, _, _, _, _⟩) (v := ?_) rfl (by kernel_rfl) (by kernel_rfl) (by kernel_rfl) (by kernel_rfl) (fun _ _ _ h => h) (Or.inl ⟨by rfl, ?_⟩) hHeld ?_
    rotate_left
    · intro w' hSw
      go_simp
      first | done | rfl
    try simp only [Act.put, List.setIfInBounds_toArray, List.set_cons_zero, List.set_cons_succ]
    refine wpAnyZ_take (i := 6) (oi := ⟨some 23, _, _, _, _, _⟩) (v := ?_) rfl (by kernel_rfl) (by kernel_rfl) (by kernel_rfl) (by kernel_rfl) (fun _ _ _ h => h) (Or.inl ⟨by rfl, ?_⟩) hHeld ?_
    rotate_left
    · intro w' hSw
      go_simp
      first | done | rfl
    try simp only [Act.put, List.setIfInBounds_toArray, List.set_cons_zero, List.set_cons_succ]
    refine wpAnyZ_take (i := 7) (oi := ⟨some 24, _, _, _, _, _⟩) (v := ?_) rfl (by kernel_rfl) (by kernel_rfl) (by kernel_rfl) (by kernel_rfl) (fun _ _ _ h => h) (Or.inl ⟨by rfl, ?_⟩) hHeld ?_
    rotate_left
    · intro w' hSw
      have cv := HC7.out w'
      go_simp
      first | done | rfl
    try simp only [Act.put, List.setIfInBounds_toArray, List.set_cons_zero, List.set_cons_succ]
    refine wpAnyZ_step (i := 4) (o := ⟨some 21, _, _, _, _, _⟩) (by kernel_rfl) rfl (fun K hK => ?_)
    go_simp
    refine (HR1.out _ hHeld).mono ?_
    rintro e v4 ⟨rfl, hk4⟩
    have hq4 := hHeld.trans hk4 (fun _ _ h => h)
    refine hK.out _ _ hq4 (fun hHeld => ?_)
    clear hK K
    try simp only [Act.put, List.setIfInBounds_toArray, List.set_cons_zero, List.set_cons_succ]
    refine wpAnyZ_step (i := 8) (o := ⟨some 25, _, _, _, _, _⟩) (by kernel_rfl) rfl (fun K hK => ?_)
    go_simp
    refine (HR2.out _ hHeld).mono ?_
    rintro e v8 ⟨rfl, hk8⟩
    have hq8 := hHeld.trans hk8 (fun _ _ h => h)
    refine hK.out _ _ hq8 (fun hHeld => ?_)
    clear hK K
    try simp only [Act.put, List.setIfInBounds_toArray, List.set_cons_zero, List.set_cons_succ]
    refine wpAnyZ_step (i := 9) (o := ⟨some 26, _, _, _, _, _⟩) (by kernel_rfl) rfl (fun K hK => ?_)
    go_simp
    refine (HP.out _ hHeld).mono ?_
    rintro e v9 ⟨rfl, hk9⟩
    have hq9 := hHeld.trans hk9 (fun _ _ h => h)
    refine hK.out _ _ hq9 (fun hHeld => ?_)
    clear hK K
    try simp only [Act.put, List.setIfInBounds_toArray, List.set_cons_zero, List.set_cons_succ]
    refine wpAnyZ_last (o := ⟨none, _, _, _, _, _⟩) (by kernel_rfl) (by kernel_rfl) rfl (fun K hK => ?_)
    refine stepH_store rfl 24 _ _ rfl DV rfl rfl (hHeld.blk HZ.out (fun h => h)) (by rw [HDL.out]; simp) HIN.out HD1.out ?_
    refine hK.out _ _ ?_
    clear hK K
    try simp only [Act.put, List.setIfInBounds_toArray, List.set_cons_zero, List.set_cons_succ]
    go_wp2
    refine bodyPost_ret (results_blk rfl _ _ rfl ((hq9.blk HZ.out (fun h => h)).setRow DV) Tryd.underlying24 rfl HIN.out) rfl ⟨rfl, ((HK1.out.trans hq9 (fun _ _ h => h)).setRow (.inr (Nat.le_refl _)) _)⟩
end Go.Proofs.YtknecjjdegngfaaDoor
