/-
  WALKS: the statement ShaOrder.
-/
import Derived.Test.YtgblndddcbfdiaaDoorCmpP
import Derived.Test.YtgblndddcbfdiaaDoorWorksW
import Derived.Deep.RegionHeld3
namespace Go.Proofs.YtgblndddcbfdiaaDoor
open Go Go.RowKit Go.Sha Go.Aff

theorem range_digest (w : World) (g : Nat) (xs : List Value) (hb : Blk w g 23 xs) : w.rangeAt g 0 xs := fun j v hv => by rw [Nat.zero_add, hb.cell, hv]

set_option maxHeartbeats 4000000 in
set_option maxRecDepth 100000 in
theorem order_any (w : World) (hG : Glob w) (xs ys zs : List Int) (hx : xs.length = 32) (hy : ys.length = 32) (hz : zs.length = 32) (bx : IsBytes xs) (by' : IsBytes ys) :
    Calls Tryd.prog 3 #[.agg (vb xs).toArray, .agg (vb ys).toArray, .agg (vb zs).toArray] w fun e w' => e = .returned (.bool true) ∧ Keeps (fun _ => False) w w' := by
  obtain ⟨xa, hxa⟩ : ∃ xa, xa = vb xs := ⟨_, rfl⟩
  obtain ⟨ya, hya⟩ : ∃ ya, ya = vb ys := ⟨_, rfl⟩
  obtain ⟨za, hza⟩ : ∃ za, za = vb zs := ⟨_, rfl⟩
  have hS : ∀ W, Keeps (fun _ => False) (((w.alloc (.cells xa.toArray 23)).alloc (.cells ya.toArray 23)).alloc (.cells za.toArray 23)) W →
      W.rangeAt w.heap.size 0 xa ∧ W.rangeAt (w.heap.size + 1) 0 ya ∧ W.rangeAt (w.heap.size + 1 + 1) 0 za := by
    intro W hk
    subst hxa hya hza
    have b1 := ((Blk.new w 23 (vb xs)).alloc (.cells (vb ys).toArray 23)).alloc (.cells (vb zs).toArray 23)
    have b2 := (Blk.new (w.alloc (.cells (vb xs).toArray 23)) 23 (vb ys)).alloc (.cells (vb zs).toArray 23)
    have b3 := Blk.new ((w.alloc (.cells (vb xs).toArray 23)).alloc (.cells (vb ys).toArray 23)) 23 (vb zs)
    simp only [World.size_alloc] at b2 b3
    exact ⟨range_digest W _ (vb xs) (hk.blk b1 (fun h => h)), range_digest W _ (vb ys) (hk.blk b2 (fun h => h)), range_digest W _ (vb zs) (hk.blk b3 (fun h => h))⟩
  have hC1 : ∀ W, Calls Tryd.prog 13 #[.agg xa.toArray, .agg ya.toArray] W fun e w' => e = .returned (.int .i64 (cmpI xs ys)) ∧ Keeps (fun _ => False) W w' := fun W => by subst hxa hya; exact compare_any W xs ys hx hy
  have hC2 : ∀ W, Calls Tryd.prog 13 #[.agg ya.toArray, .agg za.toArray] W fun e w' => e = .returned (.int .i64 (cmpI ys zs)) ∧ Keeps (fun _ => False) W w' := fun W => by subst hza hya; exact compare_any W ys zs hy hz
  have hC3 : ∀ W, Calls Tryd.prog 13 #[.agg xa.toArray, .agg za.toArray] W fun e w' => e = .returned (.int .i64 (cmpI xs zs)) ∧ Keeps (fun _ => False) W w' := fun W => by subst hxa hza; exact compare_any W xs zs hx hz
  have hC4 : ∀ W, Calls Tryd.prog 13 #[.agg ya.toArray, .agg xa.toArray] W fun e w' => e = .returned (.int .i64 (cmpI ys xs)) ∧ Keeps (fun _ => False) W w' := fun W => by subst hxa hya; exact compare_any W ys xs hy hx
  have hC5 : ∀ W, Calls Tryd.prog 13 #[.agg xa.toArray, .agg xa.toArray] W fun e w' => e = .returned (.int .i64 (cmpI xs xs)) ∧ Keeps (fun _ => False) W w' := fun W => by subst hxa; exact compare_any W xs xs hx hx
  have heq : ∀ W, (binOp .eql 23 (.agg xa.toArray) (.agg ya.toArray)).run Tryd.prog W = .ok (.bool (decide (xs = ys))) W := fun W => by subst hxa hya; exact digest_eql W xs ys hx hy
  rw [← hxa, ← hya, ← hza]
  have u23 := Tryd.underlying23
  have ix : (Tryd.prog.info? 23).map (·.size) = some xa.length := by rw [hxa, show (vb xs).length = 32 by simp [vb, hx]]; kernel_rfl
  have iy : (Tryd.prog.info? 23).map (·.size) = some ya.length := by rw [hya, show (vb ys).length = 32 by simp [vb, hy]]; kernel_rfl
  have iz : (Tryd.prog.info? 23).map (·.size) = some za.length := by rw [hza, show (vb zs).length = 32 by simp [vb, hz]]; kernel_rfl
  have HS := Lib.hid hS
  have C1 := Lib.hid hC1
  have C2 := Lib.hid hC2
  have C3 := Lib.hid hC3
  have C4 := Lib.hid hC4
  have C5 := Lib.hid hC5
  have hBC : ∀ W, Keeps (fun _ => False) (((w.alloc (.cells xa.toArray 23)).alloc (.cells ya.toArray 23)).alloc (.cells za.toArray 23)) W → Calls Tryd.prog 14 #[.slice (some ⟨w.heap.size, 0, none⟩) 32 32, .slice (some ⟨w.heap.size + 1, 0, none⟩) 32 32] W fun e w' => e = .returned (.int .i64 (cmpI xs ys)) ∧ w' = W := by
    intro W hk
    have b1 := ((Blk.new w 23 xa).alloc (.cells ya.toArray 23)).alloc (.cells za.toArray 23)
    have b2 := (Blk.new (w.alloc (.cells xa.toArray 23)) 23 ya).alloc (.cells za.toArray 23)
    simp only [World.size_alloc] at b2
    subst hxa hya
    have := bytesCompare_any W _ _ 32 32 xs ys (Rd.of_blk (hk.blk b1 (fun h => h)) (by simp [vb])) (Rd.of_blk (hk.blk b2 (fun h => h)) (by simp [vb]))
    rw [hx, hy] at this
    exact this
  have HBC := Lib.hid hBC
  have e1 : cmpI ys xs = - cmpI xs ys := cmpI_anti xs ys
  have e2 : cmpI xs xs = 0 := cmpI_self xs
  have e3 : (xs = ys) = (cmpI xs ys = 0) := propext (cmpI_zero bx by').symm
  have e4 : ¬ 0 < cmpI xs ys → ¬ 0 < cmpI ys zs → cmpI xs zs ≤ 0 := fun h1 h2 => cmpI_trans xs ys zs (by omega) (by omega)
  have r1 := (cmpI_range xs ys).1
  have r2 := (cmpI_range xs ys).2
  obtain ⟨p, hp⟩ : ∃ p, p = cmpI xs ys := ⟨_, rfl⟩
  obtain ⟨q, hq⟩ : ∃ q, q = cmpI ys zs := ⟨_, rfl⟩
  obtain ⟨r, hr⟩ : ∃ r, r = cmpI xs zs := ⟨_, rfl⟩
  rw [e1] at C4
  rw [e2] at C5
  rw [← hp] at C1 HBC e3 e4 r1 r2 C4
  rw [← hq] at C2 e4
  rw [← hr] at C3 e4
  have hpd : decide (xs = ys) = (p == 0) := by rw [Bool.eq_iff_iff]; simp [e3]
  simp only [hpd] at heq
  have hwr : IntKind.i64.wrap (-p) = -p := by simp [IntKind.wrap, IntKind.bits, IntKind.signed]; omega
  have E4 := Lib.hid e4
  have HG := Lib.hid hG
  clear hS hC1 hC2 hC3 hC4 hC5 hG hxa hya hza hx hy hz hBC e1 e2 e3 e4 hp hq hr bx by' hpd
  go_enter Tryd.func3, Tryd.ntmps3
  go_wp2
  refine wp_region_held_drew (S := (fun w' => Keeps (fun _ => False) (((w.alloc (.cells xa.toArray 23)).alloc (.cells ya.toArray 23)).alloc (.cells za.toArray 23)) w' ∧ w'.rangeAt w.heap.size 0 xa ∧ w'.rangeAt (w.heap.size + 1) 0 ya ∧ w'.rangeAt (w.heap.size + 1 + 1) 0 za)) (by kernel_rfl) ⟨(Keeps.refl _ _).drew, HS.out _ ((Keeps.refl _ _).drew)⟩ (fun hHeld => ?_)
  refine wpAnyH_take (i := 0) (oi := _) (v := _) rfl (by kernel_rfl) (by kernel_rfl) (by kernel_rfl) (fun _ _ _ h => h) (yieldsIf_load_mid (by rfl) _ _ rfl _ _ rfl xa _ (fun w' h => h.2.1) u23 rfl ix) hHeld ?_
  refine wpAnyH_take (i := 1) (oi := _) (v := _) rfl (by kernel_rfl) (by kernel_rfl) (by kernel_rfl) (fun _ _ _ h => h) (yieldsIf_load_mid (by rfl) _ _ rfl _ _ rfl ya _ (fun w' h => h.2.2.1) u23 rfl iy) hHeld ?_
  refine wpAnyH_take (i := 3) (oi := _) (v := _) rfl (by kernel_rfl) (by kernel_rfl) (by kernel_rfl) (fun _ _ _ h => h) (yieldsIf_load_mid (by rfl) _ _ rfl _ _ rfl ya _ (fun w' h => h.2.2.1) u23 rfl iy) hHeld ?_
  refine wpAnyH_take (i := 4) (oi := _) (v := _) rfl (by kernel_rfl) (by kernel_rfl) (by kernel_rfl) (fun _ _ _ h => h) (yieldsIf_load_mid (by rfl) _ _ rfl _ _ rfl za _ (fun w' h => h.2.2.2) u23 rfl iz) hHeld ?_
  refine wpAnyH_take (i := 6) (oi := _) (v := _) rfl (by kernel_rfl) (by kernel_rfl) (by kernel_rfl) (fun _ _ _ h => h) (yieldsIf_load_mid (by rfl) _ _ rfl _ _ rfl xa _ (fun w' h => h.2.1) u23 rfl ix) hHeld ?_
  refine wpAnyH_take (i := 7) (oi := _) (v := _) rfl (by kernel_rfl) (by kernel_rfl) (by kernel_rfl) (fun _ _ _ h => h) (yieldsIf_load_mid (by rfl) _ _ rfl _ _ rfl za _ (fun w' h => h.2.2.2) u23 rfl iz) hHeld ?_
  simp only [Act.put, List.setIfInBounds_toArray]
  refine wpAnyH_ready (rs := [2]) (by kernel_rfl) (by simp) ?_
  refine AllReadyH.cons (o := _) rfl (fun K hK => ?_) AllReadyH.nil
  go_simp
  refine (C1.out _).mono ?_
  rintro e w2 ⟨rfl, hk2⟩
  have hq2 := hHeld.1.trans hk2 (fun _ _ h => h)
  show K _ w2
  refine hK.out _ _ ⟨hq2, HS.out _ hq2⟩ (fun hHeld => ?_)
  clear hK K
  try simp only [Act.put, List.setIfInBounds_toArray]
  refine wpAnyH_ready (rs := [5]) (by kernel_rfl) (by simp) ?_
  refine AllReadyH.cons (o := _) rfl (fun K hK => ?_) AllReadyH.nil
  go_simp
  refine (C2.out _).mono ?_
  rintro e w5 ⟨rfl, hk5⟩
  have hq5 := hHeld.1.trans hk5 (fun _ _ h => h)
  show K _ w5
  refine hK.out _ _ ⟨hq5, HS.out _ hq5⟩ (fun hHeld => ?_)
  clear hK K
  try simp only [Act.put, List.setIfInBounds_toArray]
  refine wpAnyH_ready (rs := [8]) (by kernel_rfl) (by simp) ?_
  refine AllReadyH.cons (o := _) rfl (fun K hK => ?_) AllReadyH.nil
  go_simp
  refine (C3.out _).mono ?_
  rintro e w8 ⟨rfl, hk8⟩
  have hq8 := hHeld.1.trans hk8 (fun _ _ h => h)
  show K _ w8
  refine hK.out _ _ ⟨hq8, HS.out _ hq8⟩ (fun hHeld => ?_)
  clear hK K
  try simp only [Act.put, List.setIfInBounds_toArray]
  refine wpAnyH_ready (rs := [9]) (by kernel_rfl) (by simp) ?_
  refine AllReadyH.cons (o := _) rfl (fun K hK => ?_) AllReadyH.nil
  go_simp
  refine hK.out _ _ hHeld (fun hHeld => ?_)
  clear hK K
  try simp only [Act.put, List.setIfInBounds_toArray]
  refine wpAnyH_ready (rs := [10]) (by kernel_rfl) (by simp) ?_
  refine AllReadyH.cons (o := _) rfl (fun K hK => ?_) AllReadyH.nil
  go_simp
  refine hK.out _ _ hHeld (fun hHeld => ?_)
  clear hK K
  try simp only [Act.put, List.setIfInBounds_toArray]
  refine wpAnyH_ready (rs := [11]) (by kernel_rfl) (by simp) ?_
  refine AllReadyH.cons (o := _) rfl (fun K hK => ?_) AllReadyH.nil
  go_simp
  refine hK.out _ _ hHeld (fun hHeld => ?_)
  clear hK K
  try simp only [Act.put, List.setIfInBounds_toArray]
  refine wpAnyH_done (by kernel_rfl) ?_ _
  go_wp2
  refine wp_region_held_drew (S := (fun w' => Keeps (fun _ => False) (((w.alloc (.cells xa.toArray 23)).alloc (.cells ya.toArray 23)).alloc (.cells za.toArray 23)) w' ∧ w'.rangeAt w.heap.size 0 xa ∧ w'.rangeAt (w.heap.size + 1) 0 ya ∧ w'.rangeAt (w.heap.size + 1 + 1) 0 za)) (by kernel_rfl) ⟨hHeld.1.drew, HS.out _ hHeld.1.drew⟩ (fun hHeld => ?_)
  refine wpAnyH_take (i := 0) (oi := _) (v := ?_) rfl (by kernel_rfl) (by kernel_rfl) (by kernel_rfl) (fun _ _ _ h => h) (Or.inl ⟨by rfl, ?_⟩) hHeld ?_
  rotate_left
  · intro w hSw
    go_simp
    first | done | rfl
  try simp only [Act.put, List.setIfInBounds_toArray]
  refine wpAnyH_take (i := 1) (oi := _) (v := ?_) rfl (by kernel_rfl) (by kernel_rfl) (by kernel_rfl) (fun _ _ _ h => h) (Or.inl ⟨by rfl, ?_⟩) hHeld ?_
  rotate_left
  · intro w hSw
    go_simp
    first | done | rfl
  try simp only [Act.put]
  refine wpAnyH_take (i := 2) (oi := _) (v := ?_) rfl (by kernel_rfl) (by kernel_rfl) (by kernel_rfl) (fun _ _ _ h => h) (Or.inl ⟨by rfl, ?_⟩) hHeld ?_
  rotate_left
  · intro w hSw
    go_simp
    first | done | rfl
  try simp only [Act.put]
  refine wpAnyH_ready (rs := [3]) (by kernel_rfl) (by simp) ?_
  refine AllReadyH.cons (o := _) rfl (fun K hK => ?_) AllReadyH.nil
  go_simp
  refine (HBC.out _ hHeld.1).mono ?_
  rintro e v1 ⟨rfl, rfl⟩
  show K _ _
  refine hK.out _ _ hHeld (fun hHeld => ?_)
  clear hK K
  try simp only [Act.put, List.setIfInBounds_toArray]
  refine wpAnyH_ready (rs := [4]) (by kernel_rfl) (by simp) ?_
  refine AllReadyH.cons (o := _) rfl (fun K hK => ?_) AllReadyH.nil
  go_simp
  refine hK.out _ _ hHeld (fun hHeld => ?_)
  clear hK K
  try simp only [Act.put, List.setIfInBounds_toArray]
  refine wpAnyH_ready (rs := [5]) (by kernel_rfl) (by simp) ?_
  refine AllReadyH.cons (o := _) rfl (fun K hK => ?_) AllReadyH.nil
  go_simp
  refine hK.out _ _ hHeld (fun hHeld => ?_)
  clear hK K
  try simp only [Act.put, List.setIfInBounds_toArray]
  refine wpAnyH_take (i := 6) (oi := _) (v := _) rfl (by kernel_rfl) (by kernel_rfl) (by kernel_rfl) (fun _ _ _ h => h) (yieldsIf_load_mid (by rfl) _ _ rfl _ _ rfl ya _ (fun w' h => h.2.2.1) u23 rfl iy) hHeld ?_
  try simp only [Act.put, List.setIfInBounds_toArray]
  refine wpAnyH_take (i := 7) (oi := _) (v := _) rfl (by kernel_rfl) (by kernel_rfl) (by kernel_rfl) (fun _ _ _ h => h) (yieldsIf_load_mid (by rfl) _ _ rfl _ _ rfl xa _ (fun w' h => h.2.1) u23 rfl ix) hHeld ?_
  try simp only [Act.put]
  refine wpAnyH_take (i := 9) (oi := _) (v := ?_) rfl (by kernel_rfl) (by kernel_rfl) (by kernel_rfl) (fun _ _ _ h => h) (Or.inl ⟨by rfl, ?_⟩) hHeld ?_
  rotate_left
  · intro w hSw
    go_simp
    first | done | rfl
  try simp only [Act.put]
  refine wpAnyH_take (i := 10) (oi := _) (v := ?_) rfl (by kernel_rfl) (by kernel_rfl) (by kernel_rfl) (fun _ _ _ h => h) (Or.inl ⟨by rfl, ?_⟩) hHeld ?_
  rotate_left
  · intro w hSw
    go_simp
    first | done | rfl
  try simp only [Act.put]
  refine wpAnyH_ready (rs := [8]) (by kernel_rfl) (by simp) ?_
  refine AllReadyH.cons (o := _) rfl (fun K hK => ?_) AllReadyH.nil
  go_simp
  refine (C4.out _).mono ?_
  rintro e v2 ⟨rfl, hk8⟩
  have hq8' := hHeld.1.trans hk8 (fun _ _ h => h)
  show K _ v2
  refine hK.out _ _ ⟨hq8', HS.out _ hq8'⟩ (fun hHeld => ?_)
  clear hK K
  try simp only [Act.put, List.setIfInBounds_toArray]
  refine wpAnyH_ready (rs := [11]) (by kernel_rfl) (by simp) ?_
  refine AllReadyH.cons (o := _) rfl (fun K hK => ?_) AllReadyH.nil
  go_simp
  refine hK.out _ _ hHeld (fun hHeld => ?_)
  clear hK K
  try simp only [Act.put, List.setIfInBounds_toArray]
  refine wpAnyH_ready (rs := [12]) (by kernel_rfl) (by simp) ?_
  refine AllReadyH.cons (o := _) rfl (fun K hK => ?_) AllReadyH.nil
  go_simp
  refine hK.out _ _ hHeld (fun hHeld => ?_)
  clear hK K
  try simp only [Act.put, List.setIfInBounds_toArray]
  refine wpAnyH_ready (rs := [13]) (by kernel_rfl) (by simp) ?_
  refine AllReadyH.cons (o := _) rfl (fun K hK => ?_) AllReadyH.nil
  go_simp
  refine hK.out _ _ hHeld (fun hHeld => ?_)
  clear hK K
  try simp only [Act.put, List.setIfInBounds_toArray]
  refine wpAnyH_take (i := 14) (oi := _) (v := ?_) rfl (by kernel_rfl) (by kernel_rfl) (by kernel_rfl) (fun _ _ _ h => h) (Or.inl ⟨by rfl, ?_⟩) hHeld ?_
  rotate_left
  · intro w hSw
    go_simp
    first | done | rfl
  try simp only [Act.put, List.setIfInBounds_toArray]
  refine wpAnyH_take (i := 16) (oi := _) (v := _) rfl (by kernel_rfl) (by kernel_rfl) (by kernel_rfl) (fun _ _ _ h => h) (yieldsIf_load_mid (by rfl) _ _ rfl _ _ rfl xa _ (fun w' h => h.2.1) u23 rfl ix) hHeld ?_
  try simp only [Act.put]
  refine wpAnyH_take (i := 17) (oi := _) (v := _) rfl (by kernel_rfl) (by kernel_rfl) (by kernel_rfl) (fun _ _ _ h => h) (yieldsIf_load_mid (by rfl) _ _ rfl _ _ rfl ya _ (fun w' h => h.2.2.1) u23 rfl iy) hHeld ?_
  try simp only [Act.put]
  refine wpAnyH_take (i := 15) (oi := _) (v := ?_) rfl (by kernel_rfl) (by kernel_rfl) (by kernel_rfl) (fun _ _ _ h => h) (Or.inl ⟨by rfl, ?_⟩) hHeld ?_
  rotate_left
  · intro w hSw
    go_simp
    first | done | rfl
  try simp only [Act.put]
  refine wpAnyH_ready (rs := [18]) (by kernel_rfl) (by simp) ?_
  refine AllReadyH.cons (o := _) rfl (fun K hK => ?_) AllReadyH.nil
  go_simp
  refine hK.out _ _ hHeld (fun hHeld => ?_)
  clear hK K
  try simp only [Act.put, List.setIfInBounds_toArray]
  refine wpAnyH_ready (rs := [19]) (by kernel_rfl) (by simp) ?_
  refine AllReadyH.cons (o := _) rfl (fun K hK => ?_) AllReadyH.nil
  go_simp
  refine hK.out _ _ hHeld (fun hHeld => ?_)
  clear hK K
  try simp only [Act.put, List.setIfInBounds_toArray]
  refine wpAnyH_ready (rs := [20]) (by kernel_rfl) (by simp) ?_
  refine AllReadyH.cons (o := _) rfl (fun K hK => ?_) AllReadyH.nil
  go_simp
  refine hK.out _ _ hHeld (fun hHeld => ?_)
  clear hK K
  try simp only [Act.put, List.setIfInBounds_toArray]
  refine wpAnyH_ready (rs := [21]) (by kernel_rfl) (by simp) ?_
  refine AllReadyH.cons (o := _) rfl (fun K hK => ?_) AllReadyH.nil
  go_simp
  refine hK.out _ _ hHeld (fun hHeld => ?_)
  clear hK K
  try simp only [Act.put, List.setIfInBounds_toArray]
  refine wpAnyH_take (i := 22) (oi := _) (v := _) rfl (by kernel_rfl) (by kernel_rfl) (by kernel_rfl) (fun _ _ _ h => h) (yieldsIf_load_mid (by rfl) _ _ rfl _ _ rfl xa _ (fun w' h => h.2.1) u23 rfl ix) hHeld ?_
  try simp only [Act.put, List.setIfInBounds_toArray]
  refine wpAnyH_take (i := 23) (oi := _) (v := _) rfl (by kernel_rfl) (by kernel_rfl) (by kernel_rfl) (fun _ _ _ h => h) (yieldsIf_load_mid (by rfl) _ _ rfl _ _ rfl xa _ (fun w' h => h.2.1) u23 rfl ix) hHeld ?_
  try simp only [Act.put]
  refine wpAnyH_ready (rs := [24]) (by kernel_rfl) (by simp) ?_
  refine AllReadyH.cons (o := _) rfl (fun K hK => ?_) AllReadyH.nil
  go_simp
  refine (C5.out _).mono ?_
  rintro e v3 ⟨rfl, hk24⟩
  have hq24' := hHeld.1.trans hk24 (fun _ _ h => h)
  show K _ v3
  refine hK.out _ _ ⟨hq24', HS.out _ hq24'⟩ (fun hHeld => ?_)
  clear hK K
  try simp only [Act.put, List.setIfInBounds_toArray]
  refine wpAnyH_ready (rs := [25]) (by kernel_rfl) (by simp) ?_
  refine AllReadyH.cons (o := _) rfl (fun K hK => ?_) AllReadyH.nil
  go_simp
  refine hK.out _ _ hHeld (fun hHeld => ?_)
  clear hK K
  try simp only [Act.put, List.setIfInBounds_toArray]
  refine wpAnyH_ready (rs := [26]) (by kernel_rfl) (by simp) ?_
  refine AllReadyH.cons (o := _) rfl (fun K hK => ?_) AllReadyH.nil
  go_simp
  refine hK.out _ _ hHeld (fun hHeld => ?_)
  clear hK K
  try simp only [Act.put, List.setIfInBounds_toArray]
  refine wpAnyH_done (by kernel_rfl) ?_ _
  have HK : Hid (Keeps (fun _ => False) w v3) := ((((Keeps.refl _ w).alloc _).alloc _).alloc _).trans hHeld.1 (fun _ _ h => h)
  have E5 : p > 0 ∨ q > 0 ∨ r ≤ 0 := by have := E4.out; omega
  by_cases c1 : 0 < p <;> by_cases c2 : 0 < q <;> by_cases c3 : r ≤ 0 <;> first
    | (exfalso; omega)
    | (go_wp2_with (go_at_call 15; refine (works_any _ (HG.out.keep HK.out (fun _ h => h.elim))).mono ?_; rintro e w9 ⟨rfl, hk9⟩)
       go_ret
       exact ⟨rfl, HK.out.trans hk9 (fun _ _ h => h)⟩)
end Go.Proofs.YtgblndddcbfdiaaDoor
