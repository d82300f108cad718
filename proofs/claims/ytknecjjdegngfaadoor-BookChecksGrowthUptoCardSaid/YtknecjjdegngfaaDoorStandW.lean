/-
  WALKS: the book's stands, grew.
-/
import Derived.Test.YtknecjjdegngfaaDoorRootW
set_option linter.unusedSimpArgs false
namespace Go.Aff
open Go Go.RowKit Go.Sha
theorem MineD.base {w W w' : World} {e : TypeId} {A : Option Addr} {m c : Nat} {ds : List (List Int)} (h : MineD W w' e A m c ds) (hk : Keeps (fun _ => False) w W) : MineD w w' e A m c ds :=
  ⟨h.1, h.2.1, h.2.2.1, hk.trans h.2.2.2.1 (fun _ _ h => h), fun g hg => Nat.le_trans hk.size (h.2.2.2.2 g hg)⟩
theorem MineD.app1 {w W w' : World} {e : TypeId} {A A' : Option Addr} {m c c' : Nat} {ds : List (List Int)} {d : List Int} (h : MineD w W e A m c ds) (hd : IsDig d) (hown : w'.ownsRow 0 e 32 (.slice A' (m + 1) c') (m + 1) (dg ds ++ vb d)) (hg : W.grownBy w' (Value.slice A m c).ownBlock)
    (hb : (Value.slice A' (m + 1) c').ownBlock = (Value.slice A m c).ownBlock ∨ (Value.slice A' (m + 1) c').ownBlock = some W.heap.size) : MineD w w' e A' (m + 1) c' (ds ++ [d]) := by
  obtain ⟨h1, h2, h3, h4, h5⟩ := h
  refine ⟨by rw [dg_app, dg_one]; exact hown, h2.app hd.one, by rw [List.length_append, h3]; rfl, h4.grown hg (fun g e => .inr (h5 g e)), fun g hg' => ?_⟩
  rcases hb with h9 | h9
  · exact h5 g (h9 ▸ hg')
  · rw [h9] at hg'
    injection hg' with hg'
    have := h4.size
    omega
end Go.Aff
namespace Go.Proofs.YtknecjjdegngfaaDoor
open Go Go.RowKit Go.Sha Go.Aff Go.Book
theorem stands_short (i : Nat) (ds : List (List Int)) (h : ds.length ≤ 65536) : (standsG emptyF pairF i ds).length ≤ 65535 := by
  rw [stands_len]
  have := way_short i ds.length 16 (by omega)
  omega
theorem grow_short : ∀ (N m : Nat) (ds : List (List Int)) (b : Bool), ds.length = N → (growG emptyF pairF m ds b).length ≤ N + 1 := by
  intro N
  induction N using Nat.strongRecOn with
  | _ N ih =>
  intro m ds b hl
  rw [growG]
  split
  · split <;> simp
  · split
    · rename_i h1 h2
      have h3 := spl_lt h2
      have h4 := spl_pos ds.length
      split
      · have := ih (spl ds.length) (by omega) m (ds.take (spl ds.length)) b (by rw [List.length_take]; omega)
        rw [List.length_append]
        simp only [List.length_cons, List.length_nil]
        omega
      · have := ih (ds.length - spl ds.length) (by omega) (m - spl ds.length) (ds.drop (spl ds.length)) false (by rw [List.length_drop])
        rw [List.length_append]
        simp only [List.length_cons, List.length_nil]
        omega
    · simp
theorem MineD.one1 {w v : World} {e : TypeId} {d : List Int} (hk : Keeps (fun _ => False) w v) (hd : IsDig d) : MineD w (v.alloc (.cells (vb d).toArray e)) e (some ⟨v.heap.size, 0, none⟩) 1 1 [d] := by
  refine ⟨⟨by rw [dg_one, vb_length, hd.1], .inr ⟨v.heap.size, 1, (vb d).toArray, rfl, Nat.zero_le _, heap_alloc_new v _, Nat.le_refl _, by simp only [maxLen]; omega, by simp [vb, hd.1], by simp only [dg_one]; exact List.take_of_length_le (by simp [vb, hd.1])⟩⟩, hd.one, rfl, hk.alloc _, fun g h => ?_⟩
  have e1 : some v.heap.size = some g := h
  injection e1 with e1
  have := hk.size
  omega
set_option maxRecDepth 100000 in
set_option maxHeartbeats 4000000 in
theorem bstands_any : ∀ (N i : Nat) (ds : List (List Int)) (w : World) (_ : Glob w) (A : Option Addr) (c : Nat), RdD w A N ds → N ≤ c → N ≤ 65536 → i < N →
    Calls Tryd.prog 66 #[.int .i64 i, .slice A N c] w fun e w' => ∃ A' c', e = .returned (.slice A' (standsG emptyF pairF i ds).length c') ∧ MineD w w' 24 A' (standsG emptyF pairF i ds).length c' (standsG emptyF pairF i ds) := by
  intro N
  induction N using Nat.strongRecOn with
  | _ N ih =>
  intro i ds w hG A c hr hc hN hi
  have hlN := hr.1
  rcases Nat.lt_or_ge N 2 with hsm | hbig
  · obtain rfl : N = 1 := by omega
    have e0 : standsG emptyF pairF i ds = [] := by rw [standsG, dif_neg (by omega)]
    rw [e0]
    clear e0 hr ih hG
    go_enter Tryd.func66, Tryd.ntmps66
    go_wp2
    go_ret
    exact ⟨_, _, rfl, MineD.nil w _⟩
  · have hs1 := spl_lt hbig
    have hs0 := spl_pos N
    have HS := Lib.hid fun W => split_any N W hbig (by omega)
    have e0 : standsG emptyF pairF i ds = if i < spl N then standsG emptyF pairF i (ds.take (spl N)) ++ [brootF (ds.drop (spl N))] else standsG emptyF pairF (i - spl N) (ds.drop (spl N)) ++ [brootF (ds.take (spl N))] := by
      rw [standsG, dif_pos (by omega), hlN]; rfl
    obtain ⟨k, hk⟩ : ∃ k, k = spl N := ⟨_, rfl⟩
    rw [← hk] at HS hs1 hs0 e0
    have hn1 : ((N : Int) == 1) = false := by simp; omega
    by_cases hik : i < k
    · have hlt : (i : Int) < (k : Int) := by omega
      rw [if_pos hik] at e0
      obtain ⟨S0, hS0⟩ : ∃ S, S = standsG emptyF pairF i (ds.take k) := ⟨_, rfl⟩
      obtain ⟨L, hL⟩ : ∃ L, L = S0.length := ⟨_, rfl⟩
      have hLb : L ≤ 65536 := by rw [hL, hS0]; exact Nat.le_trans (stands_short i _ (by rw [List.length_take]; omega)) (by omega)
      obtain ⟨R, hR⟩ : ∃ R, R = brootF (ds.drop k) := ⟨_, rfl⟩
      have hdR : IsDig R := by rw [hR]; exact dig_root (hr.2.1.drop _)
      obtain ⟨DV, hDV⟩ : ∃ DV, DV = vb R := ⟨_, rfl⟩
      have HDVV := Lib.hid hDV
      have HDR := Lib.hid hdR
      have hDVl : DV.length = 32 := by rw [hDV, vb_length]; exact hdR.1
      have HD1 : Hid (∀ u ∈ DV, u.oneCell' = true) := Lib.hid (by rw [hDV]; exact vb_one _)
      have HFO : Hid (∀ cs : Array Value, cs.size = 32 → List.foldl (fun (cs : Array Value) (x : Value × Nat) => cs.setIfInBounds x.snd x.fst) cs DV.zipIdx = DV.toArray) := Lib.hid fun cs h => fold_zip0 DV cs (by rw [hDVl]; exact h)
      have HR1 : Hid (∀ W, Keeps (fun _ => False) w W → Calls Tryd.prog 66 #[.int .i64 i, .slice (cutD A k 0) k k] W fun e w' => ∃ A' c', e = .returned (.slice A' L c') ∧ MineD w w' 24 A' L c' S0) := Lib.hid fun W hW => by
        rw [hL, hS0]
        exact (ih k (by omega) i (ds.take k) W (hG.keep hW (fun _ h => h.elim)) _ _ ((hr.keep hW (no_out _ _)).cutHM (by omega)) (Nat.le_refl _) (by omega) hik).mono fun e w' ⟨A', c', h1, h2⟩ => ⟨A', c', h1, h2.base hW⟩
      have HR2 : Hid (∀ W, Keeps (fun _ => False) w W → Calls Tryd.prog 65 #[.slice (cutD A c k) (N - k) (c - k)] W fun e w' => e = .returned (.agg DV.toArray) ∧ Keeps (fun _ => False) W w') := Lib.hid fun W hW => by
        rw [hDV, hR]
        exact broot_any (N - k) (ds.drop k) W (hG.keep hW (fun _ h => h.elim)) _ _ ((hr.keep hW (no_out _ _)).cut (by omega) hc) (by omega) (by omega)
      have HCa : Hid (∀ W, (Instr.sliceAt 36 (.slice A N c) none (some (.int .i64 k)) (some (.int .i64 k))).run Tryd.prog W = .ok (.slice (cutD A k 0) k k) W) := Lib.hid (cutD_hm Tryd.underlying36 (by kernel_rfl) A N c k k k rfl rfl (by omega))
      have HCb : Hid (∀ W, (Instr.sliceAt 36 (.slice A N c) (some (.int .i64 k)) none none).run Tryd.prog W = .ok (.slice (cutD A c k) (N - k) (c - k)) W) := Lib.hid (cutD_l Tryd.underlying36 (by kernel_rfl) A N c k k rfl (by omega))
      rw [e0]
      rw [← hS0, ← hR]
      have HLL := Lib.hid hL
      clear hS0 hR hdR hDV hL hk hr ih hlN hG
      go_enter Tryd.func66, Tryd.ntmps66
      go_wp2_with (go_at_call 81; refine (HS.out _).mono ?_; rintro e w9 ⟨rfl, hw9⟩; have hw8 := hw9.symm; clear hw9; subst hw8)
      refine wp_region_held_drew (S := Keeps (fun _ => False) w) (by kernel_rfl) (Keeps.refl _ _).drew (fun hHeld => ?_)
      refine wpAnyH_take (i := 0) (oi := ⟨some 15, _, _, _, _, _⟩) (v := ?_) rfl (by kernel_rfl) (by kernel_rfl) (by kernel_rfl) (fun _ _ _ h => h) (Or.inl ⟨by rfl, ?_⟩) hHeld ?_
      rotate_left
      · intro w' hSw
        go_simp
        first | done | rfl
      try simp only [Act.put, List.setIfInBounds_toArray, List.set_cons_zero, List.set_cons_succ]
      refine wpAnyH_take (i := 1) (oi := ⟨some 16, _, _, _, _, _⟩) (v := ?_) rfl (by kernel_rfl) (by kernel_rfl) (by kernel_rfl) (fun _ _ _ h => h) (Or.inl ⟨by rfl, ?_⟩) hHeld ?_
      rotate_left
      · intro w' hSw
        go_simp
        first | done | rfl
      try simp only [Act.put, List.setIfInBounds_toArray, List.set_cons_zero, List.set_cons_succ]
      refine wpAnyH_take (i := 2) (oi := ⟨some 17, _, _, _, _, _⟩) (v := ?_) rfl (by kernel_rfl) (by kernel_rfl) (by kernel_rfl) (fun _ _ _ h => h) (Or.inl ⟨by rfl, ?_⟩) hHeld ?_
      rotate_left
      · intro w' hSw
        go_simp
        first | done | rfl
      try simp only [Act.put, List.setIfInBounds_toArray, List.set_cons_zero, List.set_cons_succ]
      refine wpAnyH_take (i := 3) (oi := ⟨some 18, _, _, _, _, _⟩) (v := ?_) rfl (by kernel_rfl) (by kernel_rfl) (by kernel_rfl) (fun _ _ _ h => h) (Or.inl ⟨by rfl, ?_⟩) hHeld ?_
      rotate_left
      · intro w' hSw
        go_simp
        first | done | rfl
      try simp only [Act.put, List.setIfInBounds_toArray, List.set_cons_zero, List.set_cons_succ]
      refine wpAnyH_take (i := 4) (oi := ⟨some 19, _, _, _, _, _⟩) (v := ?_) rfl (by kernel_rfl) (by kernel_rfl) (by kernel_rfl) (fun _ _ _ h => h) (Or.inl ⟨by rfl, ?_⟩) hHeld ?_
      rotate_left
      · intro w' hSw
        have cv := HCa.out w'
        go_simp
        first | done | rfl
      try simp only [Act.put, List.setIfInBounds_toArray, List.set_cons_zero, List.set_cons_succ]
      refine wpAnyH_take (i := 6) (oi := ⟨some 21, _, _, _, _, _⟩) (v := ?_) rfl (by kernel_rfl) (by kernel_rfl) (by kernel_rfl) (fun _ _ _ h => h) (Or.inl ⟨by rfl, ?_⟩) hHeld ?_
      rotate_left
      · intro w' hSw
        go_simp
        first | done | rfl
      try simp only [Act.put, List.setIfInBounds_toArray, List.set_cons_zero, List.set_cons_succ]
      refine wpAnyH_take (i := 7) (oi := ⟨some 22, _, _, _, _, _⟩) (v := ?_) rfl (by kernel_rfl) (by kernel_rfl) (by kernel_rfl) (fun _ _ _ h => h) (Or.inl ⟨by rfl, ?_⟩) hHeld ?_
      rotate_left
      · intro w' hSw
        go_simp
        first | done | rfl
      try simp only [Act.put, List.setIfInBounds_toArray, List.set_cons_zero, List.set_cons_succ]
      refine wpAnyH_take (i := 8) (oi := ⟨some 23, _, _, _, _, _⟩) (v := ?_) rfl (by kernel_rfl) (by kernel_rfl) (by kernel_rfl) (fun _ _ _ h => h) (Or.inl ⟨by rfl, ?_⟩) hHeld ?_
      rotate_left
      · intro w' hSw
        have cv := HCb.out w'
        go_simp
        first | done | rfl
      try simp only [Act.put, List.setIfInBounds_toArray, List.set_cons_zero, List.set_cons_succ]
      refine wpAnyH_ready (rs := [5]) (by kernel_rfl) (by simp) ?_
      refine AllReadyH.cons (o := ⟨some 20, _, _, _, _, _⟩) rfl (fun K hK => ?_) AllReadyH.nil
      go_simp
      refine (HR1.out _ hHeld).mono ?_
      rintro e v5 ⟨A5, c5, rfl, hm5⟩
      have hq5 := hm5.2.2.2.1
      refine hK.out _ _ hq5 (fun hHeld => ?_)
      clear hK K
      try simp only [Act.put, List.setIfInBounds_toArray, List.set_cons_zero, List.set_cons_succ]
      refine wpAnyH_ready (rs := [9]) (by kernel_rfl) (by simp) ?_
      refine AllReadyH.cons (o := ⟨some 24, _, _, _, _, _⟩) rfl (fun K hK => ?_) AllReadyH.nil
      go_simp
      refine (HR2.out _ hHeld).mono ?_
      rintro e v9 ⟨rfl, hk9⟩
      have hq9 := hHeld.trans hk9 (fun _ _ h => h)
      have hm9 := hm5.keep hk9
      refine hK.out _ _ hq9 (fun hHeld => ?_)
      clear hK K
      try simp only [Act.put, List.setIfInBounds_toArray, List.set_cons_zero, List.set_cons_succ]
      refine wpAnyH_ready (rs := [10]) (by kernel_rfl) (by simp) ?_
      refine AllReadyH.cons (o := ⟨some 25, _, _, _, _, _⟩) rfl (fun K hK => ?_) AllReadyH.nil
      go_simp
      rw [HFO.out _ rfl]
      have hm10 := hm9.keep ((Keeps.refl (fun _ => False) v9).alloc (.cells DV.toArray 24))
      refine hK.out _ _ (hHeld.alloc _) (fun hHeld => ?_)
      clear hK K
      try simp only [Act.put, List.setIfInBounds_toArray, List.set_cons_zero, List.set_cons_succ]
      refine wpAnyH_ready (rs := [11]) (by kernel_rfl) (by simp) ?_
      refine AllReadyH.cons (o := ⟨some 26, _, _, _, _, _⟩) rfl (fun K hK => ?_) AllReadyH.nil
      refine step_append_own rfl (.tmp 20) (.tmp 25) 36 rfl 24 _ 32 32 Tryd.underlying36 infoD rfl (by decide) A5 L c5 (dg S0) rfl hm10.1 ⟨v9.heap.size, 0, none⟩ 1 1 DV rfl (by rw [hDVl]) (fun j x hx => by rw [add_at, Nat.zero_add, (Blk.new v9 24 DV).cell]; exact hx) HD1.out (by simp only [maxLen]; omega) (by omega) ?_
      intro A11 c11 v11 hown11 hg11 hb11
      have hm11 := MineD.app1 hm10 HDR.out (by rw [← HDVV.out]; exact hown11) hg11 hb11
      have hq11 := hm11.2.2.2.1
      refine hK.out _ _ hq11 (fun hHeld => ?_)
      clear hK K
      try simp only [Act.put, List.setIfInBounds_toArray, List.set_cons_zero, List.set_cons_succ]
      refine wpAnyH_take (i := 12) (oi := ⟨some 4, _, _, _, _, _⟩) (v := ?_) rfl (by kernel_rfl) (by kernel_rfl) (by kernel_rfl) (fun _ _ _ h => h) (Or.inl ⟨by rfl, ?_⟩) hHeld ?_
      rotate_left
      · intro w' hSw
        go_simp
        first | done | rfl
      try simp only [Act.put, List.setIfInBounds_toArray, List.set_cons_zero, List.set_cons_succ]
      refine wpAnyH_done (by kernel_rfl) ?_ _
      go_wp2
      go_ret
      rw [List.length_append, ← HLL.out]
      exact ⟨_, _, rfl, hm11⟩
    · have hlt : ¬ (i : Int) < (k : Int) := by omega
      have hsub : IntKind.i64.wrap ((i : Int) - (k : Int)) = ((i - k : Nat) : Int) := by
        rw [IntWalk.i64_in _ (by omega)]; omega
      rw [if_neg hik] at e0
      obtain ⟨S0, hS0⟩ : ∃ S, S = standsG emptyF pairF (i - k) (ds.drop k) := ⟨_, rfl⟩
      obtain ⟨L, hL⟩ : ∃ L, L = S0.length := ⟨_, rfl⟩
      have hLb : L ≤ 65536 := by rw [hL, hS0]; exact Nat.le_trans (stands_short _ _ (by rw [List.length_drop]; omega)) (by omega)
      obtain ⟨R, hR⟩ : ∃ R, R = brootF (ds.take k) := ⟨_, rfl⟩
      have hdR : IsDig R := by rw [hR]; exact dig_root (hr.2.1.take _)
      obtain ⟨DV, hDV⟩ : ∃ DV, DV = vb R := ⟨_, rfl⟩
      have HDVV := Lib.hid hDV
      have HDR := Lib.hid hdR
      have hDVl : DV.length = 32 := by rw [hDV, vb_length]; exact hdR.1
      have HD1 : Hid (∀ u ∈ DV, u.oneCell' = true) := Lib.hid (by rw [hDV]; exact vb_one _)
      have HFO : Hid (∀ cs : Array Value, cs.size = 32 → List.foldl (fun (cs : Array Value) (x : Value × Nat) => cs.setIfInBounds x.snd x.fst) cs DV.zipIdx = DV.toArray) := Lib.hid fun cs h => fold_zip0 DV cs (by rw [hDVl]; exact h)
      have HR1 : Hid (∀ W, Keeps (fun _ => False) w W → Calls Tryd.prog 66 #[.int .i64 (i - k : Nat), .slice (cutD A c k) (N - k) (c - k)] W fun e w' => ∃ A' c', e = .returned (.slice A' L c') ∧ MineD w w' 24 A' L c' S0) := Lib.hid fun W hW => by
        rw [hL, hS0]
        exact (ih (N - k) (by omega) (i - k) (ds.drop k) W (hG.keep hW (fun _ h => h.elim)) _ _ ((hr.keep hW (no_out _ _)).cut (by omega) hc) (by omega) (by omega) (by omega)).mono fun e w' ⟨A', c', h1, h2⟩ => ⟨A', c', h1, h2.base hW⟩
      have HR2 : Hid (∀ W, Keeps (fun _ => False) w W → Calls Tryd.prog 65 #[.slice (cutD A k 0) k k] W fun e w' => e = .returned (.agg DV.toArray) ∧ Keeps (fun _ => False) W w') := Lib.hid fun W hW => by
        rw [hDV, hR]
        exact broot_any k (ds.take k) W (hG.keep hW (fun _ h => h.elim)) _ _ ((hr.keep hW (no_out _ _)).cutHM (by omega)) (Nat.le_refl _) (by omega)
      have HCa : Hid (∀ W, (Instr.sliceAt 36 (.slice A N c) (some (.int .i64 k)) none none).run Tryd.prog W = .ok (.slice (cutD A c k) (N - k) (c - k)) W) := Lib.hid (cutD_l Tryd.underlying36 (by kernel_rfl) A N c k k rfl (by omega))
      have HCb : Hid (∀ W, (Instr.sliceAt 36 (.slice A N c) none (some (.int .i64 k)) (some (.int .i64 k))).run Tryd.prog W = .ok (.slice (cutD A k 0) k k) W) := Lib.hid (cutD_hm Tryd.underlying36 (by kernel_rfl) A N c k k k rfl rfl (by omega))
      rw [e0]
      rw [← hS0, ← hR]
      have HLL := Lib.hid hL
      clear hS0 hR hdR hDV hL hk hr ih hlN hG
      go_enter Tryd.func66, Tryd.ntmps66
      go_wp2_with (go_at_call 81; refine (HS.out _).mono ?_; rintro e w9 ⟨rfl, hw9⟩; have hw8 := hw9.symm; clear hw9; subst hw8)
      refine wp_region_held_drew (S := Keeps (fun _ => False) w) (by kernel_rfl) (Keeps.refl _ _).drew (fun hHeld => ?_)
      refine wpAnyH_take (i := 0) (oi := ⟨some 27, _, _, _, _, _⟩) (v := ?_) rfl (by kernel_rfl) (by kernel_rfl) (by kernel_rfl) (fun _ _ _ h => h) (Or.inl ⟨by rfl, ?_⟩) hHeld ?_
      rotate_left
      · intro w' hSw
        go_simp
        first | done | rfl
      try simp only [Act.put, List.setIfInBounds_toArray, List.set_cons_zero, List.set_cons_succ]
      refine wpAnyH_take (i := 1) (oi := ⟨some 28, _, _, _, _, _⟩) (v := ?_) rfl (by kernel_rfl) (by kernel_rfl) (by kernel_rfl) (fun _ _ _ h => h) (Or.inl ⟨by rfl, ?_⟩) hHeld ?_
      rotate_left
      · intro w' hSw
        go_simp
        first | done | rfl
      try simp only [Act.put, List.setIfInBounds_toArray, List.set_cons_zero, List.set_cons_succ]
      refine wpAnyH_take (i := 2) (oi := ⟨some 29, _, _, _, _, _⟩) (v := ?_) rfl (by kernel_rfl) (by kernel_rfl) (by kernel_rfl) (fun _ _ _ h => h) (Or.inl ⟨by rfl, ?_⟩) hHeld ?_
      rotate_left
      · intro w' hSw
        have cv := hsub
        go_simp
        first | done | rfl
      try simp only [Act.put, List.setIfInBounds_toArray, List.set_cons_zero, List.set_cons_succ]
      refine wpAnyH_take (i := 3) (oi := ⟨some 30, _, _, _, _, _⟩) (v := ?_) rfl (by kernel_rfl) (by kernel_rfl) (by kernel_rfl) (fun _ _ _ h => h) (Or.inl ⟨by rfl, ?_⟩) hHeld ?_
      rotate_left
      · intro w' hSw
        go_simp
        first | done | rfl
      try simp only [Act.put, List.setIfInBounds_toArray, List.set_cons_zero, List.set_cons_succ]
      refine wpAnyH_take (i := 4) (oi := ⟨some 31, _, _, _, _, _⟩) (v := ?_) rfl (by kernel_rfl) (by kernel_rfl) (by kernel_rfl) (fun _ _ _ h => h) (Or.inl ⟨by rfl, ?_⟩) hHeld ?_
      rotate_left
      · intro w' hSw
        go_simp
        first | done | rfl
      try simp only [Act.put, List.setIfInBounds_toArray, List.set_cons_zero, List.set_cons_succ]
      refine wpAnyH_take (i := 5) (oi := ⟨some 32, _, _, _, _, _⟩) (v := ?_) rfl (by kernel_rfl) (by kernel_rfl) (by kernel_rfl) (fun _ _ _ h => h) (Or.inl ⟨by rfl, ?_⟩) hHeld ?_
      rotate_left
      · intro w' hSw
        have cv := HCa.out w'
        go_simp
        first | done | rfl
      try simp only [Act.put, List.setIfInBounds_toArray, List.set_cons_zero, List.set_cons_succ]
      refine wpAnyH_take (i := 7) (oi := ⟨some 34, _, _, _, _, _⟩) (v := ?_) rfl (by kernel_rfl) (by kernel_rfl) (by kernel_rfl) (fun _ _ _ h => h) (Or.inl ⟨by rfl, ?_⟩) hHeld ?_
      rotate_left
      · intro w' hSw
        go_simp
        first | done | rfl
      try simp only [Act.put, List.setIfInBounds_toArray, List.set_cons_zero, List.set_cons_succ]
      refine wpAnyH_take (i := 8) (oi := ⟨some 35, _, _, _, _, _⟩) (v := ?_) rfl (by kernel_rfl) (by kernel_rfl) (by kernel_rfl) (fun _ _ _ h => h) (Or.inl ⟨by rfl, ?_⟩) hHeld ?_
      rotate_left
      · intro w' hSw
        go_simp
        first | done | rfl
      try simp only [Act.put, List.setIfInBounds_toArray, List.set_cons_zero, List.set_cons_succ]
      refine wpAnyH_take (i := 9) (oi := ⟨some 36, _, _, _, _, _⟩) (v := ?_) rfl (by kernel_rfl) (by kernel_rfl) (by kernel_rfl) (fun _ _ _ h => h) (Or.inl ⟨by rfl, ?_⟩) hHeld ?_
      rotate_left
      · intro w' hSw
        go_simp
        first | done | rfl
      try simp only [Act.put, List.setIfInBounds_toArray, List.set_cons_zero, List.set_cons_succ]
      refine wpAnyH_take (i := 10) (oi := ⟨some 37, _, _, _, _, _⟩) (v := ?_) rfl (by kernel_rfl) (by kernel_rfl) (by kernel_rfl) (fun _ _ _ h => h) (Or.inl ⟨by rfl, ?_⟩) hHeld ?_
      rotate_left
      · intro w' hSw
        have cv := HCb.out w'
        go_simp
        first | done | rfl
      try simp only [Act.put, List.setIfInBounds_toArray, List.set_cons_zero, List.set_cons_succ]
      refine wpAnyH_ready (rs := [6]) (by kernel_rfl) (by simp) ?_
      refine AllReadyH.cons (o := ⟨some 33, _, _, _, _, _⟩) rfl (fun K hK => ?_) AllReadyH.nil
      go_simp
      refine (HR1.out _ hHeld).mono ?_
      rintro e v5 ⟨A5, c5, rfl, hm5⟩
      have hq5 := hm5.2.2.2.1
      refine hK.out _ _ hq5 (fun hHeld => ?_)
      clear hK K
      try simp only [Act.put, List.setIfInBounds_toArray, List.set_cons_zero, List.set_cons_succ]
      refine wpAnyH_ready (rs := [11]) (by kernel_rfl) (by simp) ?_
      refine AllReadyH.cons (o := ⟨some 38, _, _, _, _, _⟩) rfl (fun K hK => ?_) AllReadyH.nil
      go_simp
      refine (HR2.out _ hHeld).mono ?_
      rintro e v9 ⟨rfl, hk9⟩
      have hq9 := hHeld.trans hk9 (fun _ _ h => h)
      have hm9 := hm5.keep hk9
      refine hK.out _ _ hq9 (fun hHeld => ?_)
      clear hK K
      try simp only [Act.put, List.setIfInBounds_toArray, List.set_cons_zero, List.set_cons_succ]
      refine wpAnyH_ready (rs := [12]) (by kernel_rfl) (by simp) ?_
      refine AllReadyH.cons (o := ⟨some 39, _, _, _, _, _⟩) rfl (fun K hK => ?_) AllReadyH.nil
      go_simp
      rw [HFO.out _ rfl]
      have hm10 := hm9.keep ((Keeps.refl (fun _ => False) v9).alloc (.cells DV.toArray 24))
      refine hK.out _ _ (hHeld.alloc _) (fun hHeld => ?_)
      clear hK K
      try simp only [Act.put, List.setIfInBounds_toArray, List.set_cons_zero, List.set_cons_succ]
      refine wpAnyH_ready (rs := [13]) (by kernel_rfl) (by simp) ?_
      refine AllReadyH.cons (o := ⟨some 40, _, _, _, _, _⟩) rfl (fun K hK => ?_) AllReadyH.nil
      refine step_append_own rfl (.tmp 33) (.tmp 39) 36 rfl 24 _ 32 32 Tryd.underlying36 infoD rfl (by decide) A5 L c5 (dg S0) rfl hm10.1 ⟨v9.heap.size, 0, none⟩ 1 1 DV rfl (by rw [hDVl]) (fun j x hx => by rw [add_at, Nat.zero_add, (Blk.new v9 24 DV).cell]; exact hx) HD1.out (by simp only [maxLen]; omega) (by omega) ?_
      intro A11 c11 v11 hown11 hg11 hb11
      have hm11 := MineD.app1 hm10 HDR.out (by rw [← HDVV.out]; exact hown11) hg11 hb11
      have hq11 := hm11.2.2.2.1
      refine hK.out _ _ hq11 (fun hHeld => ?_)
      clear hK K
      try simp only [Act.put, List.setIfInBounds_toArray, List.set_cons_zero, List.set_cons_succ]
      refine wpAnyH_take (i := 14) (oi := ⟨some 4, _, _, _, _, _⟩) (v := ?_) rfl (by kernel_rfl) (by kernel_rfl) (by kernel_rfl) (fun _ _ _ h => h) (Or.inl ⟨by rfl, ?_⟩) hHeld ?_
      rotate_left
      · intro w' hSw
        go_simp
        first | done | rfl
      try simp only [Act.put, List.setIfInBounds_toArray, List.set_cons_zero, List.set_cons_succ]
      refine wpAnyH_done (by kernel_rfl) ?_ _
      go_wp2
      go_ret
      rw [List.length_append, ← HLL.out]
      exact ⟨_, _, rfl, hm11⟩
set_option maxRecDepth 100000 in
set_option maxHeartbeats 4000000 in
theorem bgrew_any : ∀ (N m : Nat) (b : Bool) (ds : List (List Int)) (w : World) (_ : Glob w) (A : Option Addr) (c : Nat), RdD w A N ds → N ≤ c → N ≤ 65536 → 0 < m → m ≤ N →
    Calls Tryd.prog 67 #[.int .i64 m, .slice A N c, .bool b] w fun e w' => ∃ A' c', e = .returned (.slice A' (growG emptyF pairF m ds b).length c') ∧ MineD w w' 24 A' (growG emptyF pairF m ds b).length c' (growG emptyF pairF m ds b) := by
  intro N
  induction N using Nat.strongRecOn with
  | _ N ih =>
  intro m b ds w hG A c hr hc hN hm0 hmN
  have hlN := hr.1
  by_cases hmn : m = N
  · subst hmn
    cases b with
    | true =>
      have e0 : growG emptyF pairF m ds true = [] := by rw [growG, if_pos hlN.symm]; rfl
      rw [e0]
      clear e0 hr ih hG
      go_enter Tryd.func67, Tryd.ntmps67
      go_wp2
      go_ret
      exact ⟨_, _, rfl, MineD.nil w _⟩
    | false =>
      obtain ⟨R, hR⟩ : ∃ R, R = brootF ds := ⟨_, rfl⟩
      have e0 : growG emptyF pairF m ds false = [R] := by rw [growG, if_pos hlN.symm, hR]; rfl
      rw [e0]
      have hdR : IsDig R := by rw [hR]; exact dig_root hr.2.1
      obtain ⟨DV, hDV⟩ : ∃ DV, DV = vb R := ⟨_, rfl⟩
      have HDVV := Lib.hid hDV
      have HDR := Lib.hid hdR
      have hDVl : DV.length = 32 := by rw [hDV, vb_length]; exact hdR.1
      have HFO : Hid (∀ cs : Array Value, cs.size = 32 → List.foldl (fun (cs : Array Value) (x : Value × Nat) => cs.setIfInBounds x.snd x.fst) cs DV.zipIdx = DV.toArray) := Lib.hid fun cs h => fold_zip0 DV cs (by rw [hDVl]; exact h)
      have HR := Lib.hid (broot_any m ds w hG A c hr hc hN)
      rw [← hR, ← hDV] at HR
      clear e0 hr ih hG hR hdR hDV
      go_enter Tryd.func67, Tryd.ntmps67
      go_wp2_with (go_at_call 65; refine HR.out.mono ?_; rintro e w1 ⟨rfl, hk1⟩; have HK1 := Lib.hid hk1; clear hk1)
      go_ret
      refine ⟨_, _, rfl, ?_⟩
      rw [HFO.out _ rfl, HDVV.out]
      exact MineD.one1 HK1.out HDR.out
  · have hbig : 2 ≤ N := by omega
    have hs1 := spl_lt hbig
    have hs0 := spl_pos N
    have HS := Lib.hid fun W => split_any N W hbig (by omega)
    have e0 : growG emptyF pairF m ds b = if m ≤ spl N then growG emptyF pairF m (ds.take (spl N)) b ++ [brootF (ds.drop (spl N))] else growG emptyF pairF (m - spl N) (ds.drop (spl N)) false ++ [brootF (ds.take (spl N))] := by
      rw [growG, if_neg (by omega), dif_pos (by omega), hlN]; rfl
    obtain ⟨k, hk⟩ : ∃ k, k = spl N := ⟨_, rfl⟩
    rw [← hk] at HS hs1 hs0 e0
    have hn1 : ((m : Int) == (N : Int)) = false := by simp; omega
    by_cases hik : m ≤ k
    · have hlt : (m : Int) ≤ (k : Int) := by omega
      rw [if_pos hik] at e0
      obtain ⟨S0, hS0⟩ : ∃ S, S = growG emptyF pairF m (ds.take k) b := ⟨_, rfl⟩
      obtain ⟨L, hL⟩ : ∃ L, L = S0.length := ⟨_, rfl⟩
      have hLb : L ≤ 65536 := by rw [hL, hS0]; exact Nat.le_trans (grow_short k m _ b (by rw [List.length_take]; omega)) (by omega)
      obtain ⟨R, hR⟩ : ∃ R, R = brootF (ds.drop k) := ⟨_, rfl⟩
      have hdR : IsDig R := by rw [hR]; exact dig_root (hr.2.1.drop _)
      obtain ⟨DV, hDV⟩ : ∃ DV, DV = vb R := ⟨_, rfl⟩
      have HDVV := Lib.hid hDV
      have HDR := Lib.hid hdR
      have hDVl : DV.length = 32 := by rw [hDV, vb_length]; exact hdR.1
      have HD1 : Hid (∀ u ∈ DV, u.oneCell' = true) := Lib.hid (by rw [hDV]; exact vb_one _)
      have HFO : Hid (∀ cs : Array Value, cs.size = 32 → List.foldl (fun (cs : Array Value) (x : Value × Nat) => cs.setIfInBounds x.snd x.fst) cs DV.zipIdx = DV.toArray) := Lib.hid fun cs h => fold_zip0 DV cs (by rw [hDVl]; exact h)
      have HR1 : Hid (∀ W, Keeps (fun _ => False) w W → Calls Tryd.prog 67 #[.int .i64 m, .slice (cutD A k 0) k k, .bool b] W fun e w' => ∃ A' c', e = .returned (.slice A' L c') ∧ MineD w w' 24 A' L c' S0) := Lib.hid fun W hW => by
        rw [hL, hS0]
        exact (ih k (by omega) m b (ds.take k) W (hG.keep hW (fun _ h => h.elim)) _ _ ((hr.keep hW (no_out _ _)).cutHM (by omega)) (Nat.le_refl _) (by omega) hm0 hik).mono fun e w' ⟨A', c', h1, h2⟩ => ⟨A', c', h1, h2.base hW⟩
      have HR2 : Hid (∀ W, Keeps (fun _ => False) w W → Calls Tryd.prog 65 #[.slice (cutD A c k) (N - k) (c - k)] W fun e w' => e = .returned (.agg DV.toArray) ∧ Keeps (fun _ => False) W w') := Lib.hid fun W hW => by
        rw [hDV, hR]
        exact broot_any (N - k) (ds.drop k) W (hG.keep hW (fun _ h => h.elim)) _ _ ((hr.keep hW (no_out _ _)).cut (by omega) hc) (by omega) (by omega)
      have HCa : Hid (∀ W, (Instr.sliceAt 36 (.slice A N c) none (some (.int .i64 k)) (some (.int .i64 k))).run Tryd.prog W = .ok (.slice (cutD A k 0) k k) W) := Lib.hid (cutD_hm Tryd.underlying36 (by kernel_rfl) A N c k k k rfl rfl (by omega))
      have HCb : Hid (∀ W, (Instr.sliceAt 36 (.slice A N c) (some (.int .i64 k)) none none).run Tryd.prog W = .ok (.slice (cutD A c k) (N - k) (c - k)) W) := Lib.hid (cutD_l Tryd.underlying36 (by kernel_rfl) A N c k k rfl (by omega))
      rw [e0]
      rw [← hS0, ← hR]
      have HLL := Lib.hid hL
      clear hS0 hR hdR hDV hL hk hr ih hlN hG
      go_enter Tryd.func67, Tryd.ntmps67
      go_wp2_with (go_at_call 81; refine (HS.out _).mono ?_; rintro e w9 ⟨rfl, hw9⟩; have hw8 := hw9.symm; clear hw9; subst hw8)
      refine wp_region_held_drew (S := Keeps (fun _ => False) w) (by kernel_rfl) (Keeps.refl _ _).drew (fun hHeld => ?_)
      refine wpAnyH_take (i := 0) (oi := ⟨some 22, _, _, _, _, _⟩) (v := ?_) rfl (by kernel_rfl) (by kernel_rfl) (by kernel_rfl) (fun _ _ _ h => h) (Or.inl ⟨by rfl, ?_⟩) hHeld ?_
      rotate_left
      · intro w' hSw
        go_simp
        first | done | rfl
      try simp only [Act.put, List.setIfInBounds_toArray, List.set_cons_zero, List.set_cons_succ]
      refine wpAnyH_take (i := 1) (oi := ⟨some 23, _, _, _, _, _⟩) (v := ?_) rfl (by kernel_rfl) (by kernel_rfl) (by kernel_rfl) (fun _ _ _ h => h) (Or.inl ⟨by rfl, ?_⟩) hHeld ?_
      rotate_left
      · intro w' hSw
        go_simp
        first | done | rfl
      try simp only [Act.put, List.setIfInBounds_toArray, List.set_cons_zero, List.set_cons_succ]
      refine wpAnyH_take (i := 2) (oi := ⟨some 24, _, _, _, _, _⟩) (v := ?_) rfl (by kernel_rfl) (by kernel_rfl) (by kernel_rfl) (fun _ _ _ h => h) (Or.inl ⟨by rfl, ?_⟩) hHeld ?_
      rotate_left
      · intro w' hSw
        go_simp
        first | done | rfl
      try simp only [Act.put, List.setIfInBounds_toArray, List.set_cons_zero, List.set_cons_succ]
      refine wpAnyH_take (i := 3) (oi := ⟨some 25, _, _, _, _, _⟩) (v := ?_) rfl (by kernel_rfl) (by kernel_rfl) (by kernel_rfl) (fun _ _ _ h => h) (Or.inl ⟨by rfl, ?_⟩) hHeld ?_
      rotate_left
      · intro w' hSw
        go_simp
        first | done | rfl
      try simp only [Act.put, List.setIfInBounds_toArray, List.set_cons_zero, List.set_cons_succ]
      refine wpAnyH_take (i := 4) (oi := ⟨some 26, _, _, _, _, _⟩) (v := ?_) rfl (by kernel_rfl) (by kernel_rfl) (by kernel_rfl) (fun _ _ _ h => h) (Or.inl ⟨by rfl, ?_⟩) hHeld ?_
      rotate_left
      · intro w' hSw
        have cv := HCa.out w'
        go_simp
        first | done | rfl
      try simp only [Act.put, List.setIfInBounds_toArray, List.set_cons_zero, List.set_cons_succ]
      refine wpAnyH_take (i := 5) (oi := ⟨some 27, _, _, _, _, _⟩) (v := ?_) rfl (by kernel_rfl) (by kernel_rfl) (by kernel_rfl) (fun _ _ _ h => h) (Or.inl ⟨by rfl, ?_⟩) hHeld ?_
      rotate_left
      · intro w' hSw
        go_simp
        first | done | rfl
      try simp only [Act.put, List.setIfInBounds_toArray, List.set_cons_zero, List.set_cons_succ]
      refine wpAnyH_take (i := 7) (oi := ⟨some 29, _, _, _, _, _⟩) (v := ?_) rfl (by kernel_rfl) (by kernel_rfl) (by kernel_rfl) (fun _ _ _ h => h) (Or.inl ⟨by rfl, ?_⟩) hHeld ?_
      rotate_left
      · intro w' hSw
        go_simp
        first | done | rfl
      try simp only [Act.put, List.setIfInBounds_toArray, List.set_cons_zero, List.set_cons_succ]
      refine wpAnyH_take (i := 8) (oi := ⟨some 30, _, _, _, _, _⟩) (v := ?_) rfl (by kernel_rfl) (by kernel_rfl) (by kernel_rfl) (fun _ _ _ h => h) (Or.inl ⟨by rfl, ?_⟩) hHeld ?_
      rotate_left
      · intro w' hSw
        go_simp
        first | done | rfl
      try simp only [Act.put, List.setIfInBounds_toArray, List.set_cons_zero, List.set_cons_succ]
      refine wpAnyH_take (i := 9) (oi := ⟨some 31, _, _, _, _, _⟩) (v := ?_) rfl (by kernel_rfl) (by kernel_rfl) (by kernel_rfl) (fun _ _ _ h => h) (Or.inl ⟨by rfl, ?_⟩) hHeld ?_
      rotate_left
      · intro w' hSw
        have cv := HCb.out w'
        go_simp
        first | done | rfl
      try simp only [Act.put, List.setIfInBounds_toArray, List.set_cons_zero, List.set_cons_succ]
      refine wpAnyH_ready (rs := [6]) (by kernel_rfl) (by simp) ?_
      refine AllReadyH.cons (o := ⟨some 28, _, _, _, _, _⟩) rfl (fun K hK => ?_) AllReadyH.nil
      go_simp
      refine (HR1.out _ hHeld).mono ?_
      rintro e v5 ⟨A5, c5, rfl, hm5⟩
      have hq5 := hm5.2.2.2.1
      refine hK.out _ _ hq5 (fun hHeld => ?_)
      clear hK K
      try simp only [Act.put, List.setIfInBounds_toArray, List.set_cons_zero, List.set_cons_succ]
      refine wpAnyH_ready (rs := [10]) (by kernel_rfl) (by simp) ?_
      refine AllReadyH.cons (o := ⟨some 32, _, _, _, _, _⟩) rfl (fun K hK => ?_) AllReadyH.nil
      go_simp
      refine (HR2.out _ hHeld).mono ?_
      rintro e v9 ⟨rfl, hk9⟩
      have hq9 := hHeld.trans hk9 (fun _ _ h => h)
      have hm9 := hm5.keep hk9
      refine hK.out _ _ hq9 (fun hHeld => ?_)
      clear hK K
      try simp only [Act.put, List.setIfInBounds_toArray, List.set_cons_zero, List.set_cons_succ]
      refine wpAnyH_ready (rs := [11]) (by kernel_rfl) (by simp) ?_
      refine AllReadyH.cons (o := ⟨some 33, _, _, _, _, _⟩) rfl (fun K hK => ?_) AllReadyH.nil
      go_simp
      rw [HFO.out _ rfl]
      have hm10 := hm9.keep ((Keeps.refl (fun _ => False) v9).alloc (.cells DV.toArray 24))
      refine hK.out _ _ (hHeld.alloc _) (fun hHeld => ?_)
      clear hK K
      try simp only [Act.put, List.setIfInBounds_toArray, List.set_cons_zero, List.set_cons_succ]
      refine wpAnyH_ready (rs := [12]) (by kernel_rfl) (by simp) ?_
      refine AllReadyH.cons (o := ⟨some 34, _, _, _, _, _⟩) rfl (fun K hK => ?_) AllReadyH.nil
      refine step_append_own rfl (.tmp 28) (.tmp 33) 36 rfl 24 _ 32 32 Tryd.underlying36 infoD rfl (by decide) A5 L c5 (dg S0) rfl hm10.1 ⟨v9.heap.size, 0, none⟩ 1 1 DV rfl (by rw [hDVl]) (fun j x hx => by rw [add_at, Nat.zero_add, (Blk.new v9 24 DV).cell]; exact hx) HD1.out (by simp only [maxLen]; omega) (by omega) ?_
      intro A11 c11 v11 hown11 hg11 hb11
      have hm11 := MineD.app1 hm10 HDR.out (by rw [← HDVV.out]; exact hown11) hg11 hb11
      have hq11 := hm11.2.2.2.1
      refine hK.out _ _ hq11 (fun hHeld => ?_)
      clear hK K
      try simp only [Act.put, List.setIfInBounds_toArray, List.set_cons_zero, List.set_cons_succ]
      refine wpAnyH_take (i := 13) (oi := ⟨some 6, _, _, _, _, _⟩) (v := ?_) rfl (by kernel_rfl) (by kernel_rfl) (by kernel_rfl) (fun _ _ _ h => h) (Or.inl ⟨by rfl, ?_⟩) hHeld ?_
      rotate_left
      · intro w' hSw
        go_simp
        first | done | rfl
      try simp only [Act.put, List.setIfInBounds_toArray, List.set_cons_zero, List.set_cons_succ]
      refine wpAnyH_done (by kernel_rfl) ?_ _
      go_wp2
      go_ret
      rw [List.length_append, ← HLL.out]
      exact ⟨_, _, rfl, hm11⟩
    · have hlt : ¬ (m : Int) ≤ (k : Int) := by omega
      have hsub : IntKind.i64.wrap ((m : Int) - (k : Int)) = ((m - k : Nat) : Int) := by
        rw [IntWalk.i64_in _ (by omega)]; omega
      rw [if_neg hik] at e0
      obtain ⟨S0, hS0⟩ : ∃ S, S = growG emptyF pairF (m - k) (ds.drop k) false := ⟨_, rfl⟩
      obtain ⟨L, hL⟩ : ∃ L, L = S0.length := ⟨_, rfl⟩
      have hLb : L ≤ 65536 := by rw [hL, hS0]; exact Nat.le_trans (grow_short (N - k) (m - k) _ false (by rw [List.length_drop]; omega)) (by omega)
      obtain ⟨R, hR⟩ : ∃ R, R = brootF (ds.take k) := ⟨_, rfl⟩
      have hdR : IsDig R := by rw [hR]; exact dig_root (hr.2.1.take _)
      obtain ⟨DV, hDV⟩ : ∃ DV, DV = vb R := ⟨_, rfl⟩
      have HDVV := Lib.hid hDV
      have HDR := Lib.hid hdR
      have hDVl : DV.length = 32 := by rw [hDV, vb_length]; exact hdR.1
      have HD1 : Hid (∀ u ∈ DV, u.oneCell' = true) := Lib.hid (by rw [hDV]; exact vb_one _)
      have HFO : Hid (∀ cs : Array Value, cs.size = 32 → List.foldl (fun (cs : Array Value) (x : Value × Nat) => cs.setIfInBounds x.snd x.fst) cs DV.zipIdx = DV.toArray) := Lib.hid fun cs h => fold_zip0 DV cs (by rw [hDVl]; exact h)
      have HR1 : Hid (∀ W, Keeps (fun _ => False) w W → Calls Tryd.prog 67 #[.int .i64 (m - k : Nat), .slice (cutD A c k) (N - k) (c - k), .bool false] W fun e w' => ∃ A' c', e = .returned (.slice A' L c') ∧ MineD w w' 24 A' L c' S0) := Lib.hid fun W hW => by
        rw [hL, hS0]
        exact (ih (N - k) (by omega) (m - k) false (ds.drop k) W (hG.keep hW (fun _ h => h.elim)) _ _ ((hr.keep hW (no_out _ _)).cut (by omega) hc) (by omega) (by omega) (by omega) (by omega)).mono fun e w' ⟨A', c', h1, h2⟩ => ⟨A', c', h1, h2.base hW⟩
      have HR2 : Hid (∀ W, Keeps (fun _ => False) w W → Calls Tryd.prog 65 #[.slice (cutD A k 0) k k] W fun e w' => e = .returned (.agg DV.toArray) ∧ Keeps (fun _ => False) W w') := Lib.hid fun W hW => by
        rw [hDV, hR]
        exact broot_any k (ds.take k) W (hG.keep hW (fun _ h => h.elim)) _ _ ((hr.keep hW (no_out _ _)).cutHM (by omega)) (Nat.le_refl _) (by omega)
      have HCa : Hid (∀ W, (Instr.sliceAt 36 (.slice A N c) (some (.int .i64 k)) none none).run Tryd.prog W = .ok (.slice (cutD A c k) (N - k) (c - k)) W) := Lib.hid (cutD_l Tryd.underlying36 (by kernel_rfl) A N c k k rfl (by omega))
      have HCb : Hid (∀ W, (Instr.sliceAt 36 (.slice A N c) none (some (.int .i64 k)) (some (.int .i64 k))).run Tryd.prog W = .ok (.slice (cutD A k 0) k k) W) := Lib.hid (cutD_hm Tryd.underlying36 (by kernel_rfl) A N c k k k rfl rfl (by omega))
      rw [e0]
      rw [← hS0, ← hR]
      have HLL := Lib.hid hL
      clear hS0 hR hdR hDV hL hk hr ih hlN hG
      go_enter Tryd.func67, Tryd.ntmps67
      go_wp2_with (go_at_call 81; refine (HS.out _).mono ?_; rintro e w9 ⟨rfl, hw9⟩; have hw8 := hw9.symm; clear hw9; subst hw8)
      refine wp_region_held_drew (S := Keeps (fun _ => False) w) (by kernel_rfl) (Keeps.refl _ _).drew (fun hHeld => ?_)
      refine wpAnyH_take (i := 0) (oi := ⟨some 35, _, _, _, _, _⟩) (v := ?_) rfl (by kernel_rfl) (by kernel_rfl) (by kernel_rfl) (fun _ _ _ h => h) (Or.inl ⟨by rfl, ?_⟩) hHeld ?_
      rotate_left
      · intro w' hSw
        go_simp
        first | done | rfl
      try simp only [Act.put, List.setIfInBounds_toArray, List.set_cons_zero, List.set_cons_succ]
      refine wpAnyH_take (i := 1) (oi := ⟨some 36, _, _, _, _, _⟩) (v := ?_) rfl (by kernel_rfl) (by kernel_rfl) (by kernel_rfl) (fun _ _ _ h => h) (Or.inl ⟨by rfl, ?_⟩) hHeld ?_
      rotate_left
      · intro w' hSw
        go_simp
        first | done | rfl
      try simp only [Act.put, List.setIfInBounds_toArray, List.set_cons_zero, List.set_cons_succ]
      refine wpAnyH_take (i := 2) (oi := ⟨some 37, _, _, _, _, _⟩) (v := ?_) rfl (by kernel_rfl) (by kernel_rfl) (by kernel_rfl) (fun _ _ _ h => h) (Or.inl ⟨by rfl, ?_⟩) hHeld ?_
      rotate_left
      · intro w' hSw
        have cv := hsub
        go_simp
        first | done | rfl
      try simp only [Act.put, List.setIfInBounds_toArray, List.set_cons_zero, List.set_cons_succ]
      refine wpAnyH_take (i := 3) (oi := ⟨some 38, _, _, _, _, _⟩) (v := ?_) rfl (by kernel_rfl) (by kernel_rfl) (by kernel_rfl) (fun _ _ _ h => h) (Or.inl ⟨by rfl, ?_⟩) hHeld ?_
      rotate_left
      · intro w' hSw
        go_simp
        first | done | rfl
      try simp only [Act.put, List.setIfInBounds_toArray, List.set_cons_zero, List.set_cons_succ]
      refine wpAnyH_take (i := 4) (oi := ⟨some 39, _, _, _, _, _⟩) (v := ?_) rfl (by kernel_rfl) (by kernel_rfl) (by kernel_rfl) (fun _ _ _ h => h) (Or.inl ⟨by rfl, ?_⟩) hHeld ?_
      rotate_left
      · intro w' hSw
        go_simp
        first | done | rfl
      try simp only [Act.put, List.setIfInBounds_toArray, List.set_cons_zero, List.set_cons_succ]
      refine wpAnyH_take (i := 5) (oi := ⟨some 40, _, _, _, _, _⟩) (v := ?_) rfl (by kernel_rfl) (by kernel_rfl) (by kernel_rfl) (fun _ _ _ h => h) (Or.inl ⟨by rfl, ?_⟩) hHeld ?_
      rotate_left
      · intro w' hSw
        have cv := HCa.out w'
        go_simp
        first | done | rfl
      try simp only [Act.put, List.setIfInBounds_toArray, List.set_cons_zero, List.set_cons_succ]
      refine wpAnyH_take (i := 7) (oi := ⟨some 42, _, _, _, _, _⟩) (v := ?_) rfl (by kernel_rfl) (by kernel_rfl) (by kernel_rfl) (fun _ _ _ h => h) (Or.inl ⟨by rfl, ?_⟩) hHeld ?_
      rotate_left
      · intro w' hSw
        go_simp
        first | done | rfl
      try simp only [Act.put, List.setIfInBounds_toArray, List.set_cons_zero, List.set_cons_succ]
      refine wpAnyH_take (i := 8) (oi := ⟨some 43, _, _, _, _, _⟩) (v := ?_) rfl (by kernel_rfl) (by kernel_rfl) (by kernel_rfl) (fun _ _ _ h => h) (Or.inl ⟨by rfl, ?_⟩) hHeld ?_
      rotate_left
      · intro w' hSw
        go_simp
        first | done | rfl
      try simp only [Act.put, List.setIfInBounds_toArray, List.set_cons_zero, List.set_cons_succ]
      refine wpAnyH_take (i := 9) (oi := ⟨some 44, _, _, _, _, _⟩) (v := ?_) rfl (by kernel_rfl) (by kernel_rfl) (by kernel_rfl) (fun _ _ _ h => h) (Or.inl ⟨by rfl, ?_⟩) hHeld ?_
      rotate_left
      · intro w' hSw
        go_simp
        first | done | rfl
      try simp only [Act.put, List.setIfInBounds_toArray, List.set_cons_zero, List.set_cons_succ]
      refine wpAnyH_take (i := 10) (oi := ⟨some 45, _, _, _, _, _⟩) (v := ?_) rfl (by kernel_rfl) (by kernel_rfl) (by kernel_rfl) (fun _ _ _ h => h) (Or.inl ⟨by rfl, ?_⟩) hHeld ?_
      rotate_left
      · intro w' hSw
        have cv := HCb.out w'
        go_simp
        first | done | rfl
      try simp only [Act.put, List.setIfInBounds_toArray, List.set_cons_zero, List.set_cons_succ]
      refine wpAnyH_ready (rs := [6]) (by kernel_rfl) (by simp) ?_
      refine AllReadyH.cons (o := ⟨some 41, _, _, _, _, _⟩) rfl (fun K hK => ?_) AllReadyH.nil
      go_simp
      refine (HR1.out _ hHeld).mono ?_
      rintro e v5 ⟨A5, c5, rfl, hm5⟩
      have hq5 := hm5.2.2.2.1
      refine hK.out _ _ hq5 (fun hHeld => ?_)
      clear hK K
      try simp only [Act.put, List.setIfInBounds_toArray, List.set_cons_zero, List.set_cons_succ]
      refine wpAnyH_ready (rs := [11]) (by kernel_rfl) (by simp) ?_
      refine AllReadyH.cons (o := ⟨some 46, _, _, _, _, _⟩) rfl (fun K hK => ?_) AllReadyH.nil
      go_simp
      refine (HR2.out _ hHeld).mono ?_
      rintro e v9 ⟨rfl, hk9⟩
      have hq9 := hHeld.trans hk9 (fun _ _ h => h)
      have hm9 := hm5.keep hk9
      refine hK.out _ _ hq9 (fun hHeld => ?_)
      clear hK K
      try simp only [Act.put, List.setIfInBounds_toArray, List.set_cons_zero, List.set_cons_succ]
      refine wpAnyH_ready (rs := [12]) (by kernel_rfl) (by simp) ?_
      refine AllReadyH.cons (o := ⟨some 47, _, _, _, _, _⟩) rfl (fun K hK => ?_) AllReadyH.nil
      go_simp
      rw [HFO.out _ rfl]
      have hm10 := hm9.keep ((Keeps.refl (fun _ => False) v9).alloc (.cells DV.toArray 24))
      refine hK.out _ _ (hHeld.alloc _) (fun hHeld => ?_)
      clear hK K
      try simp only [Act.put, List.setIfInBounds_toArray, List.set_cons_zero, List.set_cons_succ]
      refine wpAnyH_ready (rs := [13]) (by kernel_rfl) (by simp) ?_
      refine AllReadyH.cons (o := ⟨some 48, _, _, _, _, _⟩) rfl (fun K hK => ?_) AllReadyH.nil
      refine step_append_own rfl (.tmp 41) (.tmp 47) 36 rfl 24 _ 32 32 Tryd.underlying36 infoD rfl (by decide) A5 L c5 (dg S0) rfl hm10.1 ⟨v9.heap.size, 0, none⟩ 1 1 DV rfl (by rw [hDVl]) (fun j x hx => by rw [add_at, Nat.zero_add, (Blk.new v9 24 DV).cell]; exact hx) HD1.out (by simp only [maxLen]; omega) (by omega) ?_
      intro A11 c11 v11 hown11 hg11 hb11
      have hm11 := MineD.app1 hm10 HDR.out (by rw [← HDVV.out]; exact hown11) hg11 hb11
      have hq11 := hm11.2.2.2.1
      refine hK.out _ _ hq11 (fun hHeld => ?_)
      clear hK K
      try simp only [Act.put, List.setIfInBounds_toArray, List.set_cons_zero, List.set_cons_succ]
      refine wpAnyH_take (i := 14) (oi := ⟨some 6, _, _, _, _, _⟩) (v := ?_) rfl (by kernel_rfl) (by kernel_rfl) (by kernel_rfl) (fun _ _ _ h => h) (Or.inl ⟨by rfl, ?_⟩) hHeld ?_
      rotate_left
      · intro w' hSw
        go_simp
        first | done | rfl
      try simp only [Act.put, List.setIfInBounds_toArray, List.set_cons_zero, List.set_cons_succ]
      refine wpAnyH_done (by kernel_rfl) ?_ _
      go_wp2
      go_ret
      rw [List.length_append, ← HLL.out]
      exact ⟨_, _, rfl, hm11⟩
end Go.Proofs.YtknecjjdegngfaaDoor
