/-
  WALK: the book's peaks.
-/
import Derived.Test.YtknecjjdegngfaaDoorAskW
set_option linter.unusedSimpArgs false
namespace Go.Proofs.YtknecjjdegngfaaDoor
open Go Go.RowKit Go.Sha Go.Aff Go.Book
def PkRel (w wr : World) (Al : Option Addr) (N cl : Nat) (Ao : Option Addr) (q co : Nat) (ls : List (List Int)) : Prop :=
  ∃ R S0, RdD w Al N R ∧ N ≤ cl ∧ q + N ≤ 65536 ∧ MineD w wr 24 Ao q co S0 ∧ S0 ++ peaksG emptyF pairF R = peaksG emptyF pairF ls
set_option maxRecDepth 100000 in
set_option maxHeartbeats 4000000 in
theorem bpeaks_ok (w : World) (hG : Glob w) (p : Nat) (u l : Value) (es : List (List Int)) (y : Int) (h : BookAt w p u l es y) (n' : Nat) (hn2 : n' ≤ es.length) (hes : es.length ≤ 65536) :
    Calls Tryd.prog 38 #[.pointer (some ⟨p, 0, none⟩), .int .i64 n'] w fun e w' => ∃ A' L c', e = .returned (.tuple #[.slice A' L c', .nilIface]) ∧ MineD w w' 24 A' L c' (peaksG emptyF pairF ((es.map leafF).take n')) := by
  obtain ⟨A, c, B, d, rfl, rfl⟩ := h.form
  have e1 := h.1.cell 1
  simp only [List.getElem?_cons_zero, List.getElem?_cons_succ] at e1
  have hL := h.rdd
  have hld := own_le h.2.2
  have HCK := Lib.hid (check_ok w p _ _ es y h n' 0 (by omega) (by omega))
  obtain ⟨m0, hm0⟩ : ∃ m0, m0 = es.length := ⟨_, rfl⟩
  rw [← hm0] at e1 hL hld hn2 hes
  have hcv := cutD_hm (P := Tryd.prog) Tryd.underlying36 (by kernel_rfl) B m0 d n' n' n' rfl rfl (by omega)
  have hR := hL.cutHM (k := n') (by omega)
  obtain ⟨ls, hls⟩ : ∃ ls, ls = (es.map leafF).take n' := ⟨_, rfl⟩
  rw [← hls] at hR ⊢
  have HR0 : Hid (PkRel w w (cutD B n' 0) n' n' none 0 0 ls) := Lib.hid ⟨ls, [], hR, Nat.le_refl _, by omega, MineD.nil w _, rfl⟩
  have HGG := Lib.hid hG
  clear hls hR hL h hG hm0
  go_enter Tryd.func38, Tryd.ntmps38
  go_wp2_with (go_at_call 64; refine HCK.out.mono ?_; rintro e w9 ⟨rfl, hw9⟩; have hw8 := hw9.symm; clear hw9; subst hw8)
  go_loopw [7, 8, 9] (fun o l _ wr => ∃ (Al : Option Addr) (N cl : Nat) (Ao : Option Addr) (q co : Nat), l = .slice Al N cl ∧ o = .slice Ao q co ∧ Hid (PkRel w wr Al N cl Ao q co ls)) (fun _ l _ _ => lenV l)
  case atStart => exact ⟨_, _, _, _, _, _, rfl, rfl, HR0⟩
  case round =>
    clear HR0
    obtain ⟨Al, N, cl, Ao, q, co, rfl, rfl, HP⟩ := hrel
    obtain ⟨R0, S0, hrd, hNc, hqN, hm, heq⟩ := HP.out
    have hNl := hrd.1
    by_cases h0 : 0 < N
    · have hpos : (0 : Int) < (N : Int) := by omega
      have hlt : Nat.log2 N < 17 := (Nat.log2_lt (by omega)).2 (by omega)
      have hle := Nat.log2_self_le (n := N) (by omega)
      have HLB := Lib.hid (fun W => len_bits N W (by omega) h0)
      have hpk : peaksG emptyF pairF R0 = brootF (R0.take (2 ^ Nat.log2 N)) :: peaksG emptyF pairF (R0.drop (2 ^ Nat.log2 N)) := by rw [peaksG, dif_pos (by omega), hNl]; rfl
      obtain ⟨t, ht⟩ : ∃ t, t = Nat.log2 N := ⟨_, rfl⟩
      rw [← ht] at hlt hle HLB hpk
      obtain ⟨pk, hpk2⟩ : ∃ pk, pk = 2 ^ t := ⟨_, rfl⟩
      have hpp : 0 < pk := by rw [hpk2]; exact Nat.two_pow_pos t
      have hpi : (2 : Int) ^ t = (pk : Int) := by rw [hpk2]; push_cast; rfl
      rw [← hpk2] at hle hpk
      have w1 : IntKind.u64.wrap (N : Int) = N := IntWalk.u64_in _ (by omega)
      have w2 : IntKind.i64.wrap ((2 : Int) ^ t) = (pk : Int) := by rw [hpi]; exact IntWalk.i64_in _ (by omega)
      obtain ⟨R, hR⟩ : ∃ R, R = brootF (R0.take pk) := ⟨_, rfl⟩
      have hdR : IsDig R := by rw [hR]; exact dig_root (hrd.2.1.take _)
      obtain ⟨DV, hDV⟩ : ∃ DV, DV = vb R := ⟨_, rfl⟩
      have HDVV := Lib.hid hDV
      have HDR := Lib.hid hdR
      have hDVl : DV.length = 32 := by rw [hDV, vb_length]; exact hdR.1
      have HD1 : Hid (∀ u ∈ DV, u.oneCell' = true) := Lib.hid (by rw [hDV]; exact vb_one _)
      have HFO : Hid (∀ cs : Array Value, cs.size = 32 → List.foldl (fun (cs : Array Value) (x : Value × Nat) => cs.setIfInBounds x.snd x.fst) cs DV.zipIdx = DV.toArray) := Lib.hid fun cs h => fold_zip0 DV cs (by rw [hDVl]; exact h)
      have HR2 : Hid (∀ W, Keeps (fun _ => False) w W → Calls Tryd.prog 65 #[.slice (cutD Al pk 0) pk pk] W fun e w' => e = .returned (.agg DV.toArray) ∧ Keeps (fun _ => False) W w') := Lib.hid fun W hW => by
        rw [hDV, hR]
        exact broot_any pk (R0.take pk) W (HGG.out.keep hW (fun _ h => h.elim)) _ _ ((hrd.keep hW (no_out _ _)).cutHM hle) (Nat.le_refl _) (by omega)
      have HCa : Hid (∀ W, (Instr.sliceAt 36 (.slice Al N cl) none (some (.int .i64 pk)) (some (.int .i64 pk))).run Tryd.prog W = .ok (.slice (cutD Al pk 0) pk pk) W) := Lib.hid (cutD_hm Tryd.underlying36 (by kernel_rfl) Al N cl pk pk pk rfl rfl (by omega))
      have HCb : Hid (∀ W, (Instr.sliceAt 36 (.slice Al N cl) (some (.int .i64 pk)) none none).run Tryd.prog W = .ok (.slice (cutD Al cl pk) (N - pk) (cl - pk)) W) := Lib.hid (cutD_l Tryd.underlying36 (by kernel_rfl) Al N cl pk pk rfl hle)
      have HM := Lib.hid hm
      have HKW := Lib.hid hm.2.2.2.1
      have HNEXT : Hid (∀ W A' c', MineD w W 24 A' (q + 1) c' (S0 ++ [R]) → PkRel w W (cutD Al cl pk) (N - pk) (cl - pk) A' (q + 1) c' ls) := Lib.hid fun W A' c' hmw => by
        refine ⟨R0.drop pk, S0 ++ [R], hrd.cut hle hNc, by omega, by omega, hmw, ?_⟩
        rw [← heq, hpk, ← hR]
        simp
      have hq2 : q ≤ 65536 := by omega
      clear ht hpk hpk2 hR hdR hDV hrd hm heq hNl hpi HP
      go_wp2_with (go_at_call 68; refine (HLB.out _).mono ?_; rintro e w9 ⟨rfl, hw9⟩; have hw8 := hw9.symm; clear hw9; subst hw8)
      refine wp_region_held_drew (S := Keeps (fun _ => False) w) (by kernel_rfl) HKW.out.drew (fun hHeld => ?_)
      refine wpAnyH_take (i := 0) (oi := ⟨some 32, _, _, _, _, _⟩) (v := ?_) rfl (by kernel_rfl) (by kernel_rfl) (by kernel_rfl) (fun _ _ _ h => h) (Or.inl ⟨by rfl, ?_⟩) hHeld ?_
      rotate_left
      · intro w' hSw
        go_simp
        first | done | rfl
      try simp only [Act.put, List.setIfInBounds_toArray, List.set_cons_zero, List.set_cons_succ]
      refine wpAnyH_take (i := 1) (oi := ⟨some 33, _, _, _, _, _⟩) (v := ?_) rfl (by kernel_rfl) (by kernel_rfl) (by kernel_rfl) (fun _ _ _ h => h) (Or.inl ⟨by rfl, ?_⟩) hHeld ?_
      rotate_left
      · intro w' hSw
        go_simp
        first | done | rfl
      try simp only [Act.put, List.setIfInBounds_toArray, List.set_cons_zero, List.set_cons_succ]
      refine wpAnyH_take (i := 2) (oi := ⟨some 34, _, _, _, _, _⟩) (v := ?_) rfl (by kernel_rfl) (by kernel_rfl) (by kernel_rfl) (fun _ _ _ h => h) (Or.inl ⟨by rfl, ?_⟩) hHeld ?_
      rotate_left
      · intro w' hSw
        go_simp
        first | done | rfl
      try simp only [Act.put, List.setIfInBounds_toArray, List.set_cons_zero, List.set_cons_succ]
      refine wpAnyH_take (i := 3) (oi := ⟨some 35, _, _, _, _, _⟩) (v := ?_) rfl (by kernel_rfl) (by kernel_rfl) (by kernel_rfl) (fun _ _ _ h => h) (Or.inl ⟨by rfl, ?_⟩) hHeld ?_
      rotate_left
      · intro w' hSw
        go_simp
        first | done | rfl
      try simp only [Act.put, List.setIfInBounds_toArray, List.set_cons_zero, List.set_cons_succ]
      refine wpAnyH_take (i := 4) (oi := ⟨some 36, _, _, _, _, _⟩) (v := ?_) rfl (by kernel_rfl) (by kernel_rfl) (by kernel_rfl) (fun _ _ _ h => h) (Or.inl ⟨by rfl, ?_⟩) hHeld ?_
      rotate_left
      · intro w' hSw
        have cv := HCa.out w'
        go_simp
        first | done | rfl
      try simp only [Act.put, List.setIfInBounds_toArray, List.set_cons_zero, List.set_cons_succ]
      refine wpAnyH_take (i := 8) (oi := ⟨some 40, _, _, _, _, _⟩) (v := ?_) rfl (by kernel_rfl) (by kernel_rfl) (by kernel_rfl) (fun _ _ _ h => h) (Or.inl ⟨by rfl, ?_⟩) hHeld ?_
      rotate_left
      · intro w' hSw
        go_simp
        first | done | rfl
      try simp only [Act.put, List.setIfInBounds_toArray, List.set_cons_zero, List.set_cons_succ]
      refine wpAnyH_take (i := 9) (oi := ⟨some 41, _, _, _, _, _⟩) (v := ?_) rfl (by kernel_rfl) (by kernel_rfl) (by kernel_rfl) (fun _ _ _ h => h) (Or.inl ⟨by rfl, ?_⟩) hHeld ?_
      rotate_left
      · intro w' hSw
        go_simp
        first | done | rfl
      try simp only [Act.put, List.setIfInBounds_toArray, List.set_cons_zero, List.set_cons_succ]
      refine wpAnyH_take (i := 10) (oi := ⟨some 42, _, _, _, _, _⟩) (v := ?_) rfl (by kernel_rfl) (by kernel_rfl) (by kernel_rfl) (fun _ _ _ h => h) (Or.inl ⟨by rfl, ?_⟩) hHeld ?_
      rotate_left
      · intro w' hSw
        have cv := HCb.out w'
        go_simp
        first | done | rfl
      try simp only [Act.put, List.setIfInBounds_toArray, List.set_cons_zero, List.set_cons_succ]
      refine wpAnyH_ready (rs := [5]) (by kernel_rfl) (by simp) ?_
      refine AllReadyH.cons (o := ⟨some 37, _, _, _, _, _⟩) rfl (fun K hK => ?_) AllReadyH.nil
      go_simp
      refine (HR2.out _ hHeld).mono ?_
      rintro e v5 ⟨rfl, hk5⟩
      have hq5 := hHeld.trans hk5 (fun _ _ h => h)
      have hm5 := HM.out.keep ((Keeps.refl (fun _ => False) wr).drew.trans hk5 (fun _ _ h => h))
      refine hK.out _ _ hq5 (fun hHeld => ?_)
      clear hK K
      try simp only [Act.put, List.setIfInBounds_toArray, List.set_cons_zero, List.set_cons_succ]
      refine wpAnyH_ready (rs := [6]) (by kernel_rfl) (by simp) ?_
      refine AllReadyH.cons (o := ⟨some 38, _, _, _, _, _⟩) rfl (fun K hK => ?_) AllReadyH.nil
      go_simp
      rw [HFO.out _ rfl]
      have hm6 := hm5.keep ((Keeps.refl (fun _ => False) v5).alloc (.cells DV.toArray 24))
      refine hK.out _ _ (hHeld.alloc _) (fun hHeld => ?_)
      clear hK K
      try simp only [Act.put, List.setIfInBounds_toArray, List.set_cons_zero, List.set_cons_succ]
      refine wpAnyH_ready (rs := [7]) (by kernel_rfl) (by simp) ?_
      refine AllReadyH.cons (o := ⟨some 39, _, _, _, _, _⟩) rfl (fun K hK => ?_) AllReadyH.nil
      refine step_append_own rfl (.tmp 32) (.tmp 38) 36 rfl 24 _ 32 32 Tryd.underlying36 infoD rfl (by decide) Ao q co (dg S0) rfl hm6.1 ⟨v5.heap.size, 0, none⟩ 1 1 DV rfl (by rw [hDVl]) (fun j x hx => by rw [add_at, Nat.zero_add, (Blk.new v5 24 DV).cell]; exact hx) HD1.out (by simp only [maxLen]; omega) (by omega) ?_
      intro A11 c11 v11 hown11 hg11 hb11
      have hm11 := MineD.app1 hm6 HDR.out (by rw [← HDVV.out]; exact hown11) hg11 hb11
      have hq11 := hm11.2.2.2.1
      refine hK.out _ _ hq11 (fun hHeld => ?_)
      clear hK K
      try simp only [Act.put, List.setIfInBounds_toArray, List.set_cons_zero, List.set_cons_succ]
      refine wpAnyH_take (i := 11) (oi := ⟨some 7, _, _, _, _, _⟩) (v := ?_) rfl (by kernel_rfl) (by kernel_rfl) (by kernel_rfl) (fun _ _ _ h => h) (Or.inl ⟨by rfl, ?_⟩) hHeld ?_
      rotate_left
      · intro w' hSw
        go_simp
        first | done | rfl
      try simp only [Act.put, List.setIfInBounds_toArray, List.set_cons_zero, List.set_cons_succ]
      refine wpAnyH_take (i := 12) (oi := ⟨some 8, _, _, _, _, _⟩) (v := ?_) rfl (by kernel_rfl) (by kernel_rfl) (by kernel_rfl) (fun _ _ _ h => h) (Or.inl ⟨by rfl, ?_⟩) hHeld ?_
      rotate_left
      · intro w' hSw
        go_simp
        first | done | rfl
      try simp only [Act.put, List.setIfInBounds_toArray, List.set_cons_zero, List.set_cons_succ]
      refine wpAnyH_done (by kernel_rfl) ?_ _
      have HN11 := Lib.hid (HNEXT.out _ _ _ hm11)
      go_wp2
      go_round
      case rel => exact ⟨_, _, _, _, _, _, rfl, rfl, HN11⟩
      case measure => simp [lenV]; omega
    · obtain rfl : N = 0 := by omega
      have hR0 : R0 = [] := List.eq_nil_of_length_eq_zero hNl
      subst hR0
      have e0 : peaksG emptyF pairF ([] : List (List Int)) = [] := by rw [peaksG]; rfl
      rw [e0, List.append_nil] at heq
      rw [heq] at hm
      have HM := Lib.hid hm
      clear hrd hm heq hNl HP e0
      go_wp2
      go_ret2
      exact ⟨_, _, _, rfl, HM.out⟩
end Go.Proofs.YtknecjjdegngfaaDoor
