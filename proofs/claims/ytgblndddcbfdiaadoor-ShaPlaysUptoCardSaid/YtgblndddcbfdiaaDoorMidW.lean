/-
  WALKS: Mid, Reset, First.
-/
import Derived.Test.YtgblndddcbfdiaaDoorOwnW
import Derived.Test.YtgblndddcbfdiaaDoorShaBW
import Derived.Deep.RegionHeld3
set_option linter.unusedSimpArgs false
namespace Go.Proofs.YtgblndddcbfdiaaDoor
open Go Go.RowKit Go.Sha Go.Aff

/-- What Mid tells: the state, the blocks, the rest in new memory. -/
def Told (w : World) (S : Nat → Int) (nb : Nat) (X : List Int) (e : Ending) (w' : World) : Prop :=
  ∃ A c, e = .returned (.agg (hcells (stN S X (X.length / 64)) ((nb + X.length / 64 : Nat) : Int) (.slice A (X.length % 64) c)).toArray) ∧ w'.ownsRow 0 5 1 (.slice A (X.length % 64) c) (X.length % 64) (vb (X.drop (64 * (X.length / 64)))) ∧
    Keeps (fun _ => False) w w' ∧ ∀ g, (Value.slice A (X.length % 64) c).ownBlock = some g → w.heap.size ≤ g

set_option maxHeartbeats 4000000 in
set_option maxRecDepth 100000 in
theorem mid_any (w : World) (p : Nat) (v : Value) (S : Nat → Int) (nb : Nat) (X : List Int) (h : HashAt w p v S nb X) :
    Calls Tryd.prog 24 #[.pointer (some ⟨p, 0, none⟩)] w (Told w S nb X) := by
  obtain ⟨hb, ho, hx⟩ := h
  obtain ⟨A, c, rfl⟩ := own_shape ho
  obtain ⟨st, hst⟩ : ∃ st, st = stN S X (X.length / 64) := ⟨_, rfl⟩
  obtain ⟨m, hm⟩ : ∃ m : Nat, m = nb + X.length / 64 := ⟨_, rfl⟩
  rw [← hst, ← hm] at hb
  have hplt := hb.lt
  have hlen := rest_length X
  have hr : Rd w A (X.drop (64 * (X.length / 64))).length (vb (X.drop (64 * (X.length / 64)))) := by rw [hlen]; exact Rd.of_own ho
  have HS : Hid (∀ W, Keeps (fun i => i = w.heap.size) (w.alloc (.cells (hcells (fun _ => 0) 0 (.slice none 0 0)).toArray 49)) W → W.cell? ⟨p, 0, none⟩ = some (.int .u32 (st 0)) ∧ W.cell? ⟨p, 1, none⟩ = some (.int .u32 (st 1)) ∧ W.cell? ⟨p, 2, none⟩ = some (.int .u32 (st 2)) ∧ W.cell? ⟨p, 3, none⟩ = some (.int .u32 (st 3)) ∧ W.cell? ⟨p, 4, none⟩ = some (.int .u32 (st 4)) ∧ W.cell? ⟨p, 5, none⟩ = some (.int .u32 (st 5)) ∧ W.cell? ⟨p, 6, none⟩ = some (.int .u32 (st 6)) ∧ W.cell? ⟨p, 7, none⟩ = some (.int .u32 (st 7)) ∧ W.cell? ⟨p, 8, none⟩ = some (.int .u64 m) ∧ W.cell? ⟨p, 9, none⟩ = some (.slice A (X.length % 64) c)) := by
    intro W hk
    have hbW := hk.blk (hb.alloc _) (fun h => by omega)
    refine ⟨?_, ?_, ?_, ?_, ?_, ?_, ?_, ?_, ?_, ?_⟩ <;> (rw [hbW.cell]; rfl)
  have HC : Hid (∀ W, Keeps (fun _ => False) (w.alloc (.cells (hcells (fun _ => 0) 0 (.slice none 0 0)).toArray 49)) W → Calls Tryd.prog 27 #[.slice A (X.length % 64) c] W fun e w' => ∃ A' c', e = .returned (.slice A' (X.length % 64) c') ∧ w'.ownsRow 0 5 1 (.slice A' (X.length % 64) c') (X.length % 64) (vb (X.drop (64 * (X.length / 64)))) ∧ Keeps (fun _ => False) W w' ∧ ∀ g, (Value.slice A' (X.length % 64) c').ownBlock = some g → W.heap.size ≤ g) := by
    intro W hk
    have := clone_any W A c (X.drop (64 * (X.length / 64))) (hr.keep (((Keeps.refl (fun _ => False) w).alloc _).trans hk (fun _ _ h => h)) (fun _ _ _ h => h)) (by omega)
    rw [hlen] at this
    exact this.mono fun e w' ⟨A', c', he, ho, hk, hn⟩ => ⟨A', c', by rw [he, hlen], by rw [hlen] at ho; exact ho, hk, by rw [hlen] at hn; exact hn⟩
  have HZ : Hid (∀ W, Keeps (fun _ => False) (w.alloc (.cells (hcells (fun _ => 0) 0 (.slice none 0 0)).toArray 49)) W → Blk W w.heap.size 49 (hcells (fun _ => 0) 0 (.slice none 0 0))) := fun W hk => hk.blk (Blk.new w 49 _) (fun h => h)
  have HST := Lib.hid hst
  have HM := Lib.hid hm
  clear hb ho hst hm hlen hr hx
  obtain ⟨r, hr⟩ : ∃ r, r = X.length % 64 := ⟨_, rfl⟩
  rw [← hr] at HS HC
  have HR := Lib.hid hr
  clear hr
  go_enter Tryd.func24, Tryd.ntmps24
  go_wp2
  refine wp_region_held_drew (S := Keeps (fun i => i = w.heap.size) (w.alloc (.cells (hcells (fun _ => 0) 0 (.slice none 0 0)).toArray 49))) (by kernel_rfl) (((Keeps.refl (fun _ => False) _).drew).mono (fun _ _ h => h.elim)) (fun hHeld => ?_)
  refine wpAnyH_take (i := 0) (oi := ⟨some 6, _, _, _, _, _⟩) (v := ?_) rfl (by kernel_rfl) (by kernel_rfl) (by kernel_rfl) (fun _ _ _ h => h) (Or.inl ⟨by rfl, ?_⟩) hHeld ?_
  rotate_left
  · intro w' hSw
    go_simp
    first | done | rfl
  try simp only [Act.put, List.setIfInBounds_toArray]
  refine wpAnyH_take (i := 1) (oi := ⟨some 7, _, _, _, _, _⟩) (v := ?_) rfl (by kernel_rfl) (by kernel_rfl) (by kernel_rfl) (fun _ _ _ h => h) (Or.inl ⟨by rfl, ?_⟩) hHeld ?_
  rotate_left
  · intro w' hSw
    go_simp
    first | done | rfl
  try simp only [Act.put, List.setIfInBounds_toArray]
  refine wpAnyH_take (i := 2) (oi := ⟨some 8, _, _, _, _, _⟩) (v := ?_) rfl (by kernel_rfl) (by kernel_rfl) (by kernel_rfl) (fun _ _ _ h => h) (Or.inl ⟨by rfl, ?_⟩) hHeld ?_
  rotate_left
  · intro w' hSw
    go_simp
    first | done | rfl
  try simp only [Act.put, List.setIfInBounds_toArray]
  refine wpAnyH_take (i := 3) (oi := ⟨some 9, _, _, _, _, _⟩) (v := ?_) rfl (by kernel_rfl) (by kernel_rfl) (by kernel_rfl) (fun _ _ _ h => h) (Or.inl ⟨by rfl, ?_⟩) hHeld ?_
  rotate_left
  · intro w' hSw
    obtain ⟨k0, k1, k2, k3, k4, k5, k6, k7, k8, k9⟩ := HS.out _ hSw
    go_simp
    first | done | rfl
  try simp only [Act.put, List.setIfInBounds_toArray]
  refine wpAnyH_take (i := 4) (oi := ⟨some 10, _, _, _, _, _⟩) (v := ?_) rfl (by kernel_rfl) (by kernel_rfl) (by kernel_rfl) (fun _ _ _ h => h) (Or.inl ⟨by rfl, ?_⟩) hHeld ?_
  rotate_left
  · intro w' hSw
    go_simp
    first | done | rfl
  try simp only [Act.put, List.setIfInBounds_toArray]
  refine wpAnyH_take (i := 5) (oi := ⟨some 11, _, _, _, _, _⟩) (v := ?_) rfl (by kernel_rfl) (by kernel_rfl) (by kernel_rfl) (fun _ _ _ h => h) (Or.inl ⟨by rfl, ?_⟩) hHeld ?_
  rotate_left
  · intro w' hSw
    go_simp
    first | done | rfl
  try simp only [Act.put, List.setIfInBounds_toArray]
  refine wpAnyH_take (i := 6) (oi := ⟨some 12, _, _, _, _, _⟩) (v := ?_) rfl (by kernel_rfl) (by kernel_rfl) (by kernel_rfl) (fun _ _ _ h => h) (Or.inl ⟨by rfl, ?_⟩) hHeld ?_
  rotate_left
  · intro w' hSw
    go_simp
    first | done | rfl
  try simp only [Act.put, List.setIfInBounds_toArray]
  refine wpAnyH_take (i := 7) (oi := ⟨some 13, _, _, _, _, _⟩) (v := ?_) rfl (by kernel_rfl) (by kernel_rfl) (by kernel_rfl) (fun _ _ _ h => h) (Or.inl ⟨by rfl, ?_⟩) hHeld ?_
  rotate_left
  · intro w' hSw
    obtain ⟨k0, k1, k2, k3, k4, k5, k6, k7, k8, k9⟩ := HS.out _ hSw
    go_simp
    first | done | rfl
  try simp only [Act.put, List.setIfInBounds_toArray]
  refine wpAnyH_take (i := 8) (oi := ⟨some 14, _, _, _, _, _⟩) (v := ?_) rfl (by kernel_rfl) (by kernel_rfl) (by kernel_rfl) (fun _ _ _ h => h) (Or.inl ⟨by rfl, ?_⟩) hHeld ?_
  rotate_left
  · intro w' hSw
    go_simp
    first | done | rfl
  try simp only [Act.put, List.setIfInBounds_toArray]
  refine wpAnyH_take (i := 9) (oi := ⟨some 15, _, _, _, _, _⟩) (v := ?_) rfl (by kernel_rfl) (by kernel_rfl) (by kernel_rfl) (fun _ _ _ h => h) (Or.inl ⟨by rfl, ?_⟩) hHeld ?_
  rotate_left
  · intro w' hSw
    go_simp
    first | done | rfl
  try simp only [Act.put, List.setIfInBounds_toArray]
  refine wpAnyH_take (i := 10) (oi := ⟨some 16, _, _, _, _, _⟩) (v := ?_) rfl (by kernel_rfl) (by kernel_rfl) (by kernel_rfl) (fun _ _ _ h => h) (Or.inl ⟨by rfl, ?_⟩) hHeld ?_
  rotate_left
  · intro w' hSw
    go_simp
    first | done | rfl
  try simp only [Act.put, List.setIfInBounds_toArray]
  refine wpAnyH_take (i := 11) (oi := ⟨some 17, _, _, _, _, _⟩) (v := ?_) rfl (by kernel_rfl) (by kernel_rfl) (by kernel_rfl) (fun _ _ _ h => h) (Or.inl ⟨by rfl, ?_⟩) hHeld ?_
  rotate_left
  · intro w' hSw
    obtain ⟨k0, k1, k2, k3, k4, k5, k6, k7, k8, k9⟩ := HS.out _ hSw
    go_simp
    first | done | rfl
  try simp only [Act.put, List.setIfInBounds_toArray]
  refine wpAnyH_ready (rs := [12]) (by kernel_rfl) (by simp) ?_
  refine AllReadyH.cons (o := ⟨some 18, _, _, _, _, _⟩) rfl (fun K hK => ?_) AllReadyH.nil
  go_simp
  refine (HC.out _ ((Keeps.refl _ _).drew)).mono ?_
  rintro e w2 ⟨A', c', rfl, hown, hk2, hnew⟩
  have hq2 := ((Keeps.refl (fun _ => False) _).drew).trans hk2 (fun _ _ h => h)
  show K _ w2
  refine hK.out _ _ (hq2.mono (fun _ _ h => h.elim)) (fun hHeld => ?_)
  clear hK K
  try simp only [Act.put, List.setIfInBounds_toArray]
  refine wpAnyH_take (i := 13) (oi := ⟨some 19, _, _, _, _, _⟩) (v := ?_) rfl (by kernel_rfl) (by kernel_rfl) (by kernel_rfl) (fun _ _ _ h => h) (Or.inl ⟨by rfl, ?_⟩) hHeld ?_
  rotate_left
  · intro w' hSw
    go_simp
    first | done | rfl
  try simp only [Act.put, List.setIfInBounds_toArray]
  refine wpAnyH_ready (rs := [14]) (by kernel_rfl) (by simp) ?_
  refine AllReadyH.cons (o := ⟨none, _, _, _, _, _⟩) rfl (fun K hK => ?_) AllReadyH.nil
  refine stepH_store rfl 49 _ _ rfl (hcells st m (.slice A' r c')) rfl rfl (HZ.out _ hq2) (by simp [hcells, wl]) (by rw [show (hcells st m (.slice A' r c')).length = 10 by simp [hcells, wl]]; kernel_rfl) (hcells_one st m _ _ _) ?_
  refine hK.out _ _ (hHeld.setRow (.inl rfl) _) (fun hHeld => ?_)
  clear hK K
  try simp only [Act.put, List.setIfInBounds_toArray]
  refine wpAnyH_done (by kernel_rfl) ?_ _
  go_wp2
  refine bodyPost_ret (results_blk rfl _ _ rfl ((HZ.out _ hq2).setRow (hcells st m (.slice A' r c'))) Tryd.underlying49 rfl (by rw [show (hcells st m (.slice A' r c')).length = 10 by simp [hcells, wl]]; kernel_rfl)) rfl ⟨A', c', ?_, ?_, ?_, ?_⟩
  · rw [← HST.out, ← HM.out, ← HR.out]
  · rw [← HR.out]
    exact Keeps.own ((Keeps.refl (fun i => i = w.heap.size) _).setRow (.inl rfl) _) hown (fun g hg e => by
      have := hnew g hg
      simp at this
      omega)
  · exact (((Keeps.refl (fun _ => False) w).alloc _).trans hq2 (fun _ _ h => h)).setRow (.inr (Nat.le_refl _)) _
  · rw [← HR.out]
    intro g hg
    have := hnew g hg
    simp at this
    omega

theorem glob_lies {W : World} (hG : Glob W) : Lies W 1 0 (wl first) := by
  intro i hi0
  have hi : i < 8 := by simpa [wl] using hi0
  rw [Nat.zero_add, hG.2 i hi]
  simp [wl, hi]

set_option maxRecDepth 100000 in
theorem first_any (w : World) (hG : Glob w) : Calls Tryd.prog 29 #[] w fun e w' => e = .returned (.agg (wl first).toArray) ∧ Keeps (fun _ => False) w w' := by
  have hl := glob_lies (hG.keep ((Keeps.refl (fun _ => False) w).alloc (.cells (List.replicate 8 (Value.int .u32 0)).toArray 38)) (fun _ h => h.elim))
  have h8 := Blk.new w 38 (List.replicate 8 (Value.int .u32 0))
  have HL := Lib.hid hl
  have H8 := Lib.hid h8
  clear hG hl h8
  go_enter Tryd.func29, Tryd.ntmps29
  go_wp2_with (first
    | ((with_reducible show wpList _ _ _ (⟨some _, Op.load 38 _, _, _, _, _⟩ :: _) _ _); refine wpList_load_lies rfl 38 _ rfl 0 (wl first) _ rfl HL.out Tryd.underlying38 rfl info8 ?_)
    | ((with_reducible show wpList _ _ _ (⟨none, Op.store 38 _ _, _, _, _, _⟩ :: _) _ _); refine wpList_store_whole rfl 38 _ _ rfl (wl first) rfl rfl H8.out (by simp [wl]) info8 (by intro v hv; obtain ⟨i, _, rfl⟩ := List.mem_map.1 hv; rfl) ?_))
  refine bodyPost_ret (results_blk rfl _ _ rfl (H8.out.setRow (wl first)) Tryd.underlying38 rfl info8) rfl ⟨rfl, ((Keeps.refl _ _).alloc _).setRow (.inr (Nat.le_refl _)) _⟩
end Go.Proofs.YtgblndddcbfdiaaDoor
