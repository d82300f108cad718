/-
  WALK: the reference's Fold.
-/
import Derived.Test.YtknecjjdegngfaaDoorFoldW
set_option linter.unusedSimpArgs false
namespace Go.Book
open Go Go.Aff Go.Sha
def foldF : List (List Int) → List Int
  | [] => emptyF
  | [d] => d
  | d :: e :: l => pairF d (foldF (e :: l))
end Go.Book
namespace Go.Proofs.YtknecjjdegngfaaDoor
open Go Go.RowKit Go.Sha Go.Aff Go.Book
theorem lies_range {w : World} {g o : Nat} {vs : List Value} (h : Lies w g o vs) : w.rangeAt g o vs := fun j _ hv => (h j (List.getElem?_eq_some_iff.1 hv).1).trans hv
theorem dig_pair (l r : List Int) : IsDig (pairF l r) := ⟨sumF_length _ _ _, dg_bytes _⟩
theorem dig_empty : IsDig emptyF := ⟨sumF_length _ _ _, dg_bytes _⟩
theorem dig_fold : ∀ {ds : List (List Int)}, IsDigs ds → IsDig (foldF ds)
  | [], _ => dig_empty
  | [d], h => h d (by simp)
  | d :: e :: l, _ => dig_pair _ _
set_option maxRecDepth 100000 in
set_option maxHeartbeats 4000000 in
theorem rfold_any : ∀ (ds : List (List Int)) (n : Nat) (w : World) (A : Option Addr) (c : Nat), RdD w A n ds → n ≤ c → n ≤ 2000 →
    Calls Tryd.prog 24 #[.slice A n c] w fun e w' => e = .returned (.agg (vb (foldF ds)).toArray) ∧ Keeps (fun _ => False) w w' := by
  intro ds
  induction ds with
  | nil =>
    intro n w A c hr hc hn
    obtain rfl : n = 0 := hr.1.symm
    have hs := rempty_any (w.alloc (.cells (List.replicate 32 (Value.int .u8 0)).toArray 23))
    show Calls _ _ _ _ fun e w' => e = .returned (.agg (vb emptyF).toArray) ∧ Keeps (fun _ => False) w w'
    have HDL0 : (vb (emptyF)).length = 32 := by rw [vb_length]; exact (dig_empty).1
    obtain ⟨DV, hDV⟩ : ∃ DV, DV = vb (emptyF) := ⟨_, rfl⟩
    have HD1 : Hid (∀ u ∈ DV, u.oneCell' = true) := Lib.hid (by rw [hDV]; exact vb_one _)
    have HDL : Hid (DV.length = 32) := Lib.hid (by rw [hDV]; exact HDL0)
    have HIN : Hid ((Tryd.prog.info? 23).map (·.size) = some DV.length) := Lib.hid (by rw [HDL.out]; kernel_rfl)
    rw [← hDV] at hs ⊢
    have HZ := Lib.hid (Blk.new w 23 (List.replicate 32 (Value.int .u8 0)))
    have HS := Lib.hid hs
    clear hs hDV HDL0 hr
    go_enter Tryd.func24, Tryd.ntmps24
    go_wp2_with (first
      | (go_at_call 16; refine HS.out.mono ?_; rintro e w6 ⟨rfl, hk6⟩; have HZ9 := Lib.hid (hk6.blk HZ.out (fun h => h)); have HK9 := Lib.hid (((Keeps.refl (fun _ => False) w).alloc _).trans hk6 (fun _ _ h => h)); clear hk6)
      | ((with_reducible show wpList _ _ _ (⟨none, Op.store 23 _ _, _, _, _, _⟩ :: _) _ _); refine wpList_store_whole rfl 23 _ _ rfl DV rfl rfl HZ9.out (by rw [HDL.out]; simp) HIN.out HD1.out ?_))
    refine bodyPost_ret (results_blk rfl _ _ rfl (HZ9.out.setRow DV) Tryd.underlying23 rfl HIN.out) rfl ⟨rfl, HK9.out.setRow (.inr (Nat.le_refl _)) _⟩
  | cons d ds ih =>
    intro n w A c hr hc hn
    have hn1 : n = ds.length + 1 := hr.1.symm
    have hdd := hr.2.1.cons.1
    have hds := hr.2.1.cons.2
    obtain ⟨g, o, d', rfl, hd', hl⟩ := hr.lies (k := 0) (by omega)
    obtain rfl : d' = d := by simpa using hd'.symm
    rw [Nat.zero_mul, Nat.add_zero] at hl
    obtain ⟨W1, hW1⟩ : ∃ W1, W1 = w.alloc (.cells (List.replicate 32 (Value.int .u8 0)).toArray 23) := ⟨_, rfl⟩
    have hk1 : Keeps (fun _ => False) w W1 := by rw [hW1]; exact (Keeps.refl _ w).alloc _
    have HZ : Hid (Blk W1 w.heap.size 23 (List.replicate 32 (Value.int .u8 0))) := Lib.hid (by rw [hW1]; exact Blk.new _ _ _)
    have HK1 := Lib.hid hk1
    have HI : Hid ((Tryd.prog.info? 23).map (·.size) = some (vb d').length) := Lib.hid (by rw [vb_length, hdd.1]; kernel_rfl)
    have HL : Hid (∀ W, Keeps (fun _ => False) W1 W → Lies W g o (vb d')) := Lib.hid fun W hk => by
      have := (hr.keep (hk1.trans hk (fun _ _ h => h)) (no_out _ _)).lies (k := 0) (by omega)
      obtain ⟨g2, o2, d2, e2, h2, l2⟩ := this
      injection e2 with e2
      injection e2 with e3 e4
      subst e3 e4
      obtain rfl : d2 = d' := by simpa using h2.symm
      rwa [Nat.zero_mul, Nat.add_zero] at l2
    cases ds with
    | nil =>
      obtain rfl : n = 1 := by rw [hn1]; rfl
      show Calls _ _ _ _ fun e w' => e = .returned (.agg (vb d').toArray) ∧ Keeps (fun _ => False) w w'
      have HDL0 : (vb (d')).length = 32 := by rw [vb_length]; exact (hdd).1
      obtain ⟨DV, hDV⟩ : ∃ DV, DV = vb (d') := ⟨_, rfl⟩
      have HD1 : Hid (∀ u ∈ DV, u.oneCell' = true) := Lib.hid (by rw [hDV]; exact vb_one _)
      have HDL : Hid (DV.length = 32) := Lib.hid (by rw [hDV]; exact HDL0)
      have HIN : Hid ((Tryd.prog.info? 23).map (·.size) = some DV.length) := Lib.hid (by rw [HDL.out]; kernel_rfl)
      have HL1 := Lib.hid (HL.out W1 (Keeps.refl _ _))
      rw [← hDV] at HL1 HI ⊢
      rw [hW1] at HL1 HZ HK1
      clear hDV HDL0 hr hW1 hk1 HL ih hl hn1 hd'
      go_enter Tryd.func24, Tryd.ntmps24
      go_wp2_with (first
        | ((with_reducible show wpList _ _ _ (⟨_, Op.load 23 _, _, _, _, _⟩ :: _) _ _); refine wpList_load_lies rfl 23 _ rfl _ _ _ rfl HL1.out Tryd.underlying23 rfl HI.out ?_)
        | ((with_reducible show wpList _ _ _ (⟨none, Op.store 23 _ _, _, _, _, _⟩ :: _) _ _); refine wpList_store_whole rfl 23 _ _ rfl DV rfl rfl HZ.out (by rw [HDL.out]; simp) HIN.out HD1.out ?_))
      refine bodyPost_ret (results_blk rfl _ _ rfl (HZ.out.setRow DV) Tryd.underlying23 rfl HIN.out) rfl ⟨rfl, HK1.out.setRow (.inr (Nat.le_refl _)) _⟩
    | cons e l =>
      show Calls _ _ _ _ fun e' w' => e' = .returned (.agg (vb (pairF d' (foldF (e :: l)))).toArray) ∧ Keeps (fun _ => False) w w'
      have hpp := dig_pair d' (foldF (e :: l))
      have hfd := dig_fold hds
      have HDL0 : (vb (pairF d' (foldF (e :: l)))).length = 32 := by rw [vb_length]; exact hpp.1
      obtain ⟨DV, hDV⟩ : ∃ DV, DV = vb (pairF d' (foldF (e :: l))) := ⟨_, rfl⟩
      have HD1 : Hid (∀ u ∈ DV, u.oneCell' = true) := Lib.hid (by rw [hDV]; exact vb_one _)
      have HDL : Hid (DV.length = 32) := Lib.hid (by rw [hDV]; exact HDL0)
      have HIN : Hid ((Tryd.prog.info? 23).map (·.size) = some DV.length) := Lib.hid (by rw [HDL.out]; kernel_rfl)
      obtain ⟨R, hR⟩ : ∃ R, R = foldF (e :: l) := ⟨_, rfl⟩
      have HF : Hid (∀ W, Keeps (fun _ => False) W1 W → Calls Tryd.prog 24 #[.slice (cutD (some ⟨g, o, none⟩) c 1) (n - 1) (c - 1)] W fun e w' => e = .returned (.agg (vb R).toArray) ∧ Keeps (fun _ => False) W w') := Lib.hid fun W hk => by
        have hc' := ((hr.keep (hk1.trans hk (fun _ _ h => h)) (no_out _ _)).cut (k := 1) (c := c) (by omega) hc)
        rw [hR]
        exact ih (n - 1) W _ _ hc' (by omega) (by omega)
      have HP : Hid (∀ W, Keeps (fun _ => False) W1 W → Calls Tryd.prog 14 #[.agg (vb d').toArray, .agg (vb R).toArray] W fun e w' => e = .returned (.agg DV.toArray) ∧ Keeps (fun _ => False) W w') := Lib.hid fun W hk => by
        rw [hDV, ← hR]
        exact rpair_any W d' R hdd.1 (by rw [hR]; exact hfd.1) hdd.2 (by rw [hR]; exact hfd.2)
      have HC : Hid (∀ W, (Instr.sliceAt 42 (.slice (some ⟨g, o, none⟩) n c) (some (.int .i64 1)) none none).run Tryd.prog W = .ok (.slice (cutD (some ⟨g, o, none⟩) c 1) (n - 1) (c - 1)) W) := Lib.hid (cutD_l Tryd.underlying42 (by kernel_rfl) _ n c 1 1 rfl (by omega))
      rw [← hDV]
      have hn2 : 2 ≤ n := by rw [hn1]; simp
      have hpos : 0 < n := by omega
      clear hDV HDL0 hr ih hl hn1 hd' hfd hpp hR
      go_enter Tryd.func24, Tryd.ntmps24
      go_wp2
      refine wp_region_last (S := Keeps (fun _ => False) W1) 7 (by kernel_rfl) (by rw [hW1]; exact (Keeps.refl (fun _ => False) _).drew) (fun hHeld => ?_)
      refine wpAnyZ_take (i := 0) (oi := ⟨some 13, _, _, _, _, _⟩) (v := ?_) rfl (by kernel_rfl) (by kernel_rfl) (by kernel_rfl) (by kernel_rfl) (fun _ _ _ h => h) (Or.inl ⟨by rfl, ?_⟩) hHeld ?_
      rotate_left
      · intro w' hSw
        go_simp
        first | done | rfl
      try simp only [Act.put, List.setIfInBounds_toArray, List.set_cons_zero, List.set_cons_succ]
      refine wpAnyZ_take (i := 1) (oi := ⟨some 14, _, _, _, _, _⟩) (v := ?_) rfl (by kernel_rfl) (by kernel_rfl) (by kernel_rfl) (by kernel_rfl) (fun _ _ _ h => h) (Or.inl ⟨by rfl, ?_⟩) hHeld ?_
      rotate_left
      · intro w' hSw
        go_simp
        first | done | rfl
      try simp only [Act.put, List.setIfInBounds_toArray, List.set_cons_zero, List.set_cons_succ]
      refine wpAnyZ_take (i := 2) (oi := ⟨some 15, _, _, _, _, _⟩) (v := _) rfl (by kernel_rfl) (by kernel_rfl) (by kernel_rfl) (by kernel_rfl) (fun _ _ _ h => h) (yieldsIf_load_mid (by rfl) _ _ rfl _ _ rfl (vb d') _ (fun w' h => lies_range (HL.out _ h)) Tryd.underlying23 rfl HI.out) hHeld ?_
      try simp only [Act.put, List.setIfInBounds_toArray, List.set_cons_zero, List.set_cons_succ]
      refine wpAnyZ_take (i := 3) (oi := ⟨some 16, _, _, _, _, _⟩) (v := ?_) rfl (by kernel_rfl) (by kernel_rfl) (by kernel_rfl) (by kernel_rfl) (fun _ _ _ h => h) (Or.inl ⟨by rfl, ?_⟩) hHeld ?_
      rotate_left
      · intro w' hSw
        go_simp
        first | done | rfl
      try simp only [Act.put, List.setIfInBounds_toArray, List.set_cons_zero, List.set_cons_succ]
      refine wpAnyZ_take (i := 4) (oi := ⟨some 17, _, _, _, _, _⟩) (v := ?_) rfl (by kernel_rfl) (by kernel_rfl) (by kernel_rfl) (by kernel_rfl) (fun _ _ _ h => h) (Or.inl ⟨by rfl, ?_⟩) hHeld ?_
      rotate_left
      · intro w' hSw
        have cv := HC.out w'
        go_simp
        first | done | rfl
      try simp only [Act.put, List.setIfInBounds_toArray, List.set_cons_zero, List.set_cons_succ]
      refine wpAnyZ_step (i := 5) (o := ⟨some 18, _, _, _, _, _⟩) (by kernel_rfl) rfl (fun K hK => ?_)
      go_simp
      refine (HF.out _ hHeld).mono ?_
      rintro e v5 ⟨rfl, hk5⟩
      have hq5 := hHeld.trans hk5 (fun _ _ h => h)
      show K _ v5
      refine hK.out _ _ hq5 (fun hHeld => ?_)
      clear hK K
      try simp only [Act.put, List.setIfInBounds_toArray, List.set_cons_zero, List.set_cons_succ]
      refine wpAnyZ_step (i := 6) (o := ⟨some 19, _, _, _, _, _⟩) (by kernel_rfl) rfl (fun K hK => ?_)
      go_simp
      refine (HP.out _ hHeld).mono ?_
      rintro e v6 ⟨rfl, hk6⟩
      have hq6 := hHeld.trans hk6 (fun _ _ h => h)
      show K _ v6
      refine hK.out _ _ hq6 (fun hHeld => ?_)
      clear hK K
      try simp only [Act.put, List.setIfInBounds_toArray, List.set_cons_zero, List.set_cons_succ]
      refine wpAnyZ_last (o := ⟨none, _, _, _, _, _⟩) (by kernel_rfl) (by kernel_rfl) rfl (fun K hK => ?_)
      refine stepH_store rfl 23 _ _ rfl DV rfl rfl (hHeld.blk HZ.out (fun h => h)) (by rw [HDL.out]; simp) HIN.out HD1.out ?_
      refine hK.out _ _ ?_
      clear hK K
      try simp only [Act.put, List.setIfInBounds_toArray, List.set_cons_zero, List.set_cons_succ]
      go_wp2
      refine bodyPost_ret (results_blk rfl _ _ rfl ((hq6.blk HZ.out (fun h => h)).setRow DV) Tryd.underlying23 rfl HIN.out) rfl ⟨rfl, ((HK1.out.trans hq6 (fun _ _ h => h)).setRow (.inr (Nat.le_refl _)) _)⟩

end Go.Proofs.YtknecjjdegngfaaDoor

