/-
  WALK: the reference's Rows.
-/
import Derived.Test.YtknecjjdegngfaaDoorRowsK
import Derived.Test.YtknecjjdegngfaaDoorLeavesW
import Derived.Test.YtknecjjdegngfaaDoorBookQ
import Derived.Test.YtknecjjdegngfaaDoorUpW
set_option linter.unusedSimpArgs false
namespace Go.Book
open Go Go.Aff Go.Sha
theorem rowsF_length : ∀ (N : Nat) (es : List (List Int)), es.length = N → 0 < N → (rowsF es).length = 2 * N - 1 := by
  intro N
  induction N using Nat.strongRecOn with
  | _ N ih =>
  intro es hN h0
  by_cases h2 : 2 ≤ N
  · have s1 := spl_lt h2
    have s2 := spl_pos N
    rw [rowsF_two es (by omega), hN, List.length_append, List.length_append, ih (spl N) s1 _ (by rw [List.length_take]; omega) s2, ih (N - spl N) (by omega) _ (by rw [List.length_drop]; omega) (by omega)]
    simp
    omega
  · obtain rfl : N = 1 := by omega
    match es, hN with
    | [e], _ => rw [rowsF]; simp
end Go.Book
namespace Go.Aff
open Go Go.RowKit
theorem ElemsR.weak {w0 wr : World} {F : Nat → Prop} {rs : List (List Int)} {vals : List Value} (h : ElemsR w0 wr F rs vals) : ElemsR w0 wr (fun _ => False) rs vals := h.lt (fun _ _ h => h.elim)
theorem ElemsR.cells {w0 wr : World} {F : Nat → Prop} {rs : List (List Int)} {vals : List Value} (h : ElemsR w0 wr F rs vals) : ∀ u ∈ vals, u.oneCell' = true := fun u hu => by
  obtain ⟨i, hi⟩ := List.mem_iff_getElem?.1 hu
  have hl : i < rs.length := by rw [← h.1]; exact (List.getElem?_eq_some_iff.1 hi).1
  obtain ⟨A', c', h1, _⟩ := h.2 i _ (List.getElem?_eq_getElem hl)
  rw [h1] at hi
  injection hi with hi
  subst hi
  rfl
theorem MineP.built {w v : World} {T : TypeId} {n : Nat} {rs : List (List Int)} {vals : List Value} (hk : Keeps (fun _ => False) w v) (he : ElemsR w v (fun _ => False) rs vals) (hn : rs.length = n) (hm : n ≤ maxLen) : MineP w (v.alloc (.cells vals.toArray T)) T (some ⟨v.heap.size, 0, none⟩) n n rs := by
  refine ⟨hn, vals, Mine.built w v T n vals hk (by rw [he.1]; exact hn) hm, ?_⟩
  refine ElemsR.keep (F := fun i => (Value.slice (some ⟨v.heap.size, 0, none⟩) n n).ownBlock = some i) (G := fun _ => False) (he.lt fun i hi hF => ?_) ((Keeps.refl _ v).alloc _) (fun _ _ h => h.elim)
  have e : some v.heap.size = some i := hF
  injection e with e
  omega
end Go.Aff
namespace Go.Proofs.YtknecjjdegngfaaDoor
open Go Go.RowKit Go.Sha Go.Aff Go.Book
theorem RdPartsO.cutT {w : World} {A : Option Addr} {N c k : Nat} {pss : List (List Int)} (h : RdPartsO (fun _ => False) w A pss) (hN : pss.length = N) (hk : k ≤ N) (hc : N ≤ c) : RdPartsO (fun _ => False) w (cutA A c 0) (pss.take k) := by
  obtain ⟨vals, h1, _, h3⟩ := h
  refine ⟨vals.take k, ?_, no_out _ _, fun i bs hi => ?_⟩
  · have := (h1.take (k := k) (by omega)).cutA (l := 0) (c := c) (by omega) (by omega)
    rw [List.length_take, hN, Nat.min_eq_left hk]
    simpa using this
  · have hik : i < k := by have := (List.getElem?_eq_some_iff.1 hi).1; rw [List.length_take] at this; omega
    rw [List.getElem?_take, if_pos hik] at hi
    obtain ⟨A', c', a, b⟩ := h3 i bs hi
    exact ⟨A', c', by rw [List.getElem?_take, if_pos hik]; exact a, b⟩
theorem RdPartsO.cutD {w : World} {A : Option Addr} {N c k : Nat} {pss : List (List Int)} (h : RdPartsO (fun _ => False) w A pss) (hN : pss.length = N) (hk : k ≤ N) (hc : N ≤ c) : RdPartsO (fun _ => False) w (cutA A c k) (pss.drop k) := by
  obtain ⟨vals, h1, _, h3⟩ := h
  refine ⟨vals.drop k, ?_, no_out _ _, fun i bs hi => ?_⟩
  · rw [List.length_drop]
    exact h1.cutA (by omega) (by omega)
  · rw [List.getElem?_drop] at hi
    obtain ⟨A', c', a, b⟩ := h3 _ bs hi
    exact ⟨A', c', by rw [List.getElem?_drop]; exact a, b⟩
theorem bytes_cons0 {l : List Int} (h : IsBytes l) : IsBytes (0 :: l) := fun x hx => by
  rcases List.mem_cons.1 hx with h1 | h1
  · rw [h1]; omega
  · exact h x h1
set_option maxRecDepth 100000 in
set_option maxHeartbeats 4000000 in
theorem rrows_any : ∀ (N : Nat) (pss : List (List Int)) (w : World) (A : Option Addr) (c : Nat), pss.length = N → RdPartsO (fun _ => False) w A pss → N ≤ c → 0 < N → N ≤ 2000 → (∀ bs ∈ pss, bs.length ≤ 2147483648) →
    Calls Tryd.prog 29 #[.slice A N c] w fun e w' => ∃ B c', e = .returned (.slice B (rowsF pss).length c') ∧ MineP w w' 22 B (rowsF pss).length c' (rowsF pss) := by
  intro N
  induction N using Nat.strongRecOn with
  | _ N ih =>
  intro pss w A c hN hp hc h0 hM hsm
  rcases Nat.lt_or_ge N 2 with h1 | h2
  · obtain rfl : N = 1 := by omega
    match pss, hN with
    | [bs], _ =>
    have hs := hsm bs (by simp)
    obtain ⟨vals, hv, _, hparts⟩ := hp
    obtain ⟨g, o, rfl, hc0⟩ := hv.2 (by simp)
    obtain ⟨A', c', e1, e2, _, e4, e5, _⟩ := hparts 0 bs rfl
    have hcell := (hc0 0 (by simp)).trans e1
    rw [Nat.add_zero] at hcell
    obtain ⟨n, hn⟩ : ∃ n, n = bs.length := ⟨_, rfl⟩
    rw [← hn] at hcell e2 hs
    have hL := leafRow_any w A' n c' bs e2 (by omega)
    have hrow : rowsF [bs] = [0 :: bs] := by rw [rowsF]; simp
    rw [hrow]
    have HEL : Hid (∀ (v : World) (A7 : Option Addr) (c7 : Nat), Mine w v 5 A7 (1 + n) c7 (vb (0 :: bs)) → MineP w (v.alloc (.cells #[.slice A7 (1 + n) c7] 22)) 22 (some ⟨v.heap.size, 0, none⟩) 1 1 [0 :: bs]) := Lib.hid fun v A7 c7 hm =>
      MineP.built (vals := [.slice A7 (1 + n) c7]) hm.2.1 (ElemsR.mine hm (Nat.le_refl _) (by rw [List.length_cons]; omega) (bytes_cons0 e4) (by omega)) rfl (by unfold maxLen; omega)
    have HL := Lib.hid hL
    have HB := Lib.hid e4
    clear hL hparts hv hc0 e1 e2 e4 e5 hsm ih hrow hn
    go_enter Tryd.func29, Tryd.ntmps29
    go_wp2_with (go_at_call 44; refine HL.out.mono ?_; rintro e v5 ⟨A7, c7, rfl, hm7⟩; have HM7 := Lib.hid (HEL.out v5 A7 c7 hm7); clear hm7)
    go_ret
    exact ⟨_, _, rfl, HM7.out⟩
  · have hs1 := spl_lt h2
    have hs0 := spl_pos N
    have e0 := rowsF_two pss (by omega)
    rw [hN] at e0
    have HS := Lib.hid fun W => rsplit_any N W h2 (by omega)
    obtain ⟨k, hk⟩ : ∃ k, k = spl N := ⟨_, rfl⟩
    rw [← hk] at HS hs1 hs0 e0
    have ht : (pss.take k).length = k := by rw [List.length_take]; omega
    have hd : (pss.drop k).length = N - k := by rw [List.length_drop]; omega
    have hst : ∀ bs ∈ pss.take k, bs.length ≤ 2147483648 := fun bs hb => hsm bs (List.mem_of_mem_take hb)
    have hsd : ∀ bs ∈ pss.drop k, bs.length ≤ 2147483648 := fun bs hb => hsm bs (List.mem_of_mem_drop hb)
    have hpt : ∀ W, Keeps (fun _ => False) w W → RdPartsO (fun _ => False) W (cutA A c 0) (pss.take k) := fun W hW => (hp.keep hW (fun _ h => h)).cutT hN (by omega) hc
    have hpd : ∀ W, Keeps (fun _ => False) w W → RdPartsO (fun _ => False) W (cutA A c k) (pss.drop k) := fun W hW => (hp.keep hW (fun _ h => h)).cutD hN (by omega) hc
    obtain ⟨n1, hn1⟩ : ∃ n1, n1 = (rowsF (pss.take k)).length := ⟨_, rfl⟩
    obtain ⟨n2, hn2⟩ : ∃ n2, n2 = (rowsF (pss.drop k)).length := ⟨_, rfl⟩
    have hb1 := rowsF_length k _ ht hs0
    have hb2 := rowsF_length (N - k) _ hd (by omega)
    have hn2p : 0 < n2 := by omega
    have hb12 : n1 + n2 ≤ 4398046511103 := by omega
    have hb13 : n1 + n2 + 1 ≤ 4398046511103 := by omega
    obtain ⟨Ra, hRa⟩ : ∃ R, R = brootF ((pss.take k).map leafF) := ⟨_, rfl⟩
    obtain ⟨Rb, hRb⟩ : ∃ R, R = brootF ((pss.drop k).map leafF) := ⟨_, rfl⟩
    have da : IsDig Ra := by rw [hRa]; exact dig_root (fun d hd => by obtain ⟨x, _, rfl⟩ := List.mem_map.1 hd; exact dig_leafF x)
    have db : IsDig Rb := by rw [hRb]; exact dig_root (fun d hd => by obtain ⟨x, _, rfl⟩ := List.mem_map.1 hd; exact dig_leafF x)
    have hI1 : ∀ W, Keeps (fun _ => False) w W → Calls Tryd.prog 29 #[.slice (cutA A c 0) k c] W fun e w' => ∃ B c', e = .returned (.slice B n1 c') ∧ MineP W w' 22 B n1 c' (rowsF (pss.take k)) := fun W hW => by
      rw [hn1]
      exact ih k hs1 _ W _ c ht (hpt W hW) (by omega) hs0 (by omega) hst
    have hI2 : ∀ W, Keeps (fun _ => False) w W → Calls Tryd.prog 29 #[.slice (cutA A c k) (N - k) (c - k)] W fun e w' => ∃ B c', e = .returned (.slice B n2 c') ∧ MineP W w' 22 B n2 c' (rowsF (pss.drop k)) := fun W hW => by
      rw [hn2]
      exact ih (N - k) (by omega) _ W _ (c - k) hd (hpd W hW) (by omega) (by omega) (by omega) hsd
    have HL1 : Hid (∀ W, Keeps (fun _ => False) w W → Calls Tryd.prog 48 #[.slice (cutA A c 0) k c] W fun e w' => ∃ A' c', e = .returned (.slice A' k c') ∧ MineD W w' 23 A' k c' ((pss.take k).map leafF)) := Lib.hid fun W hW => leaves_any W _ k c _ ht (hpt W hW) (by omega) hst
    have HL2 : Hid (∀ W, Keeps (fun _ => False) w W → Calls Tryd.prog 48 #[.slice (cutA A c k) (N - k) (c - k)] W fun e w' => ∃ A' c', e = .returned (.slice A' (N - k) c') ∧ MineD W w' 23 A' (N - k) c' ((pss.drop k).map leafF)) := Lib.hid fun W hW => leaves_any W _ (N - k) (c - k) _ hd (hpd W hW) (by omega) hsd
    have HRA : Hid (∀ (W v : World) (A' : Option Addr) (c' : Nat), MineD W v 23 A' k c' ((pss.take k).map leafF) → Calls Tryd.prog 32 #[.slice A' k c'] v fun e w' => e = .returned (.agg (vb Ra).toArray) ∧ Keeps (fun _ => False) v w') := Lib.hid fun W v A' c' h => by
      rw [hRa]
      exact rroot_any k _ v A' c' h.rd (own_le h.1) (by omega)
    have HRB : Hid (∀ (W v : World) (A' : Option Addr) (c' : Nat), MineD W v 23 A' (N - k) c' ((pss.drop k).map leafF) → Calls Tryd.prog 32 #[.slice A' (N - k) c'] v fun e w' => e = .returned (.agg (vb Rb).toArray) ∧ Keeps (fun _ => False) v w') := Lib.hid fun W v A' c' h => by
      rw [hRb]
      exact rroot_any (N - k) _ v A' c' h.rd (own_le h.1) (by omega)
    obtain ⟨ROW, hROW⟩ : ∃ ROW, ROW = (1 : Int) :: (Ra ++ Rb) := ⟨_, rfl⟩
    have HPR : Hid (∀ W, Calls Tryd.prog 45 #[.agg (vb Ra).toArray, .agg (vb Rb).toArray] W fun e w' => ∃ A' c', e = .returned (.slice A' 65 c') ∧ Mine W w' 5 A' 65 c' (vb ROW)) := Lib.hid fun W => by
      rw [hROW]
      exact pairRow_any W _ _ da.1 db.1
    have HEL : Hid (∀ (W0 W v7 : World) (A7 : Option Addr) (c7 : Nat), Keeps (fun _ => False) W0 W → Mine W v7 5 A7 65 c7 (vb ROW) → ElemsR W0 v7 (fun _ => False) [ROW] [.slice A7 65 c7]) := Lib.hid fun W0 W v7 A7 c7 hk hM => ElemsR.mine hM hk.size (by rw [hROW]; simp [da.1, db.1]) (by
      rw [hROW]
      exact bytes_cons1 (bytes_app2 da.2 db.2)) (by omega)
    rw [← hRa, ← hRb, ← hROW] at e0
    rw [e0]
    have hlen : (rowsF (pss.take k) ++ rowsF (pss.drop k) ++ [ROW]).length = n1 + n2 + 1 := by rw [List.length_append, List.length_append, ← hn1, ← hn2]; rfl
    rw [hlen]
    obtain ⟨RA, hRA⟩ : ∃ RA, RA = rowsF (pss.take k) := ⟨_, rfl⟩
    obtain ⟨RB, hRB⟩ : ∃ RB, RB = rowsF (pss.drop k) := ⟨_, rfl⟩
    rw [← hRA] at hI1 ⊢
    rw [← hRB] at hI2 ⊢
    have HI1 := Lib.hid hI1
    have HI2 := Lib.hid hI2
    have HC1 : Hid (∀ W, (Instr.sliceAt 26 (.slice A N c) none (some (.int .i64 k)) none).run Tryd.prog W = .ok (.slice (cutA A c 0) k c) W) := Lib.hid (cut_h Tryd.underlying26 (by kernel_rfl) A N c k k rfl (by omega))
    have HC2 : Hid (∀ W, (Instr.sliceAt 26 (.slice A N c) (some (.int .i64 k)) none none).run Tryd.prog W = .ok (.slice (cutA A c k) (N - k) (c - k)) W) := Lib.hid (cut_l Tryd.underlying26 (by kernel_rfl) A N c k k rfl (by omega))
    have hz0 : ((N : Int) == 0) = false := by simp; omega
    have hz1 : ((N : Int) == 1) = false := by simp; omega
    clear hI1 hI2 hRA hRB hlen e0 hROW da db hRa hRb hn1 hn2 hpt hpd hst hsd ht hd hk ih hp hN hsm hb1 hb2
    go_enter Tryd.func29, Tryd.ntmps29
    go_upto_region 6 with (go_at_call 55; refine (HS.out _).mono ?_; rintro e w9 ⟨rfl, hw9⟩; have hw8 := hw9.symm; clear hw9; subst hw8)
    refine wp_region_tail (S := Keeps (fun _ => False) w) 8 (by kernel_rfl) (Keeps.refl _ _).drew (fun hHeld => ?_)
    refine wpAnyT_pure (i := 0) (oi := ⟨some 20, _, _, _, _, _⟩) (v := ?_) rfl (by kernel_rfl) (by kernel_rfl) (by kernel_rfl) (fun _ _ _ h => h) (Or.inl ⟨by rfl, ?_⟩) ?_
    rotate_left
    · intro w' hSw
      go_simp
      first | done | rfl
    try simp only [Act.put, List.setIfInBounds_toArray, List.set_cons_zero, List.set_cons_succ]
    refine wpAnyT_pure (i := 1) (oi := ⟨some 21, _, _, _, _, _⟩) (v := ?_) rfl (by kernel_rfl) (by kernel_rfl) (by kernel_rfl) (fun _ _ _ h => h) (Or.inl ⟨by rfl, ?_⟩) ?_
    rotate_left
    · intro w' hSw
      go_simp
      first | done | rfl
    try simp only [Act.put, List.setIfInBounds_toArray, List.set_cons_zero, List.set_cons_succ]
    refine wpAnyT_pure (i := 2) (oi := ⟨some 22, _, _, _, _, _⟩) (v := ?_) rfl (by kernel_rfl) (by kernel_rfl) (by kernel_rfl) (fun _ _ _ h => h) (Or.inl ⟨by rfl, ?_⟩) ?_
    rotate_left
    · intro w' hSw
      have cv := HC1.out w'
      go_simp
      first | done | rfl
    try simp only [Act.put, List.setIfInBounds_toArray, List.set_cons_zero, List.set_cons_succ]
    refine wpAnyT_pure (i := 4) (oi := ⟨some 24, _, _, _, _, _⟩) (v := ?_) rfl (by kernel_rfl) (by kernel_rfl) (by kernel_rfl) (fun _ _ _ h => h) (Or.inl ⟨by rfl, ?_⟩) ?_
    rotate_left
    · intro w' hSw
      go_simp
      first | done | rfl
    try simp only [Act.put, List.setIfInBounds_toArray, List.set_cons_zero, List.set_cons_succ]
    refine wpAnyT_pure (i := 5) (oi := ⟨some 25, _, _, _, _, _⟩) (v := ?_) rfl (by kernel_rfl) (by kernel_rfl) (by kernel_rfl) (fun _ _ _ h => h) (Or.inl ⟨by rfl, ?_⟩) ?_
    rotate_left
    · intro w' hSw
      go_simp
      first | done | rfl
    try simp only [Act.put, List.setIfInBounds_toArray, List.set_cons_zero, List.set_cons_succ]
    refine wpAnyT_pure (i := 6) (oi := ⟨some 26, _, _, _, _, _⟩) (v := ?_) rfl (by kernel_rfl) (by kernel_rfl) (by kernel_rfl) (fun _ _ _ h => h) (Or.inl ⟨by rfl, ?_⟩) ?_
    rotate_left
    · intro w' hSw
      have cv := HC2.out w'
      go_simp
      first | done | rfl
    try simp only [Act.put, List.setIfInBounds_toArray, List.set_cons_zero, List.set_cons_succ]
    refine wpAnyT_step (i := 3) (o := ⟨some 23, _, _, _, _, _⟩) (by kernel_rfl) rfl (fun K hK => ?_)
    go_simp
    refine (HI1.out _ hHeld).mono ?_
    rintro e v1 ⟨B1, c1, rfl, hP1⟩
    have hP1' := hP1.base hHeld
    have hq1 := hP1'.keeps
    refine hK.out _ _ hq1 (fun hHeld => ?_)
    clear hK K
    try simp only [Act.put, List.setIfInBounds_toArray, List.set_cons_zero, List.set_cons_succ]
    refine wpAnyT_step (i := 7) (o := ⟨some 27, _, _, _, _, _⟩) (by kernel_rfl) rfl (fun K hK => ?_)
    go_simp
    refine (HI2.out _ hHeld).mono ?_
    rintro e v2 ⟨B2, c2, rfl, hP2⟩
    have hq2 := hHeld.trans hP2.keeps (fun _ _ h => h)
    refine hK.out _ _ hq2 (fun hHeld => ?_)
    clear hK K
    try simp only [Act.put, List.setIfInBounds_toArray, List.set_cons_zero, List.set_cons_succ]
    obtain ⟨hl2, vals2, hM2, hE2⟩ := id hP2
    obtain ⟨g2, rfl, _, _⟩ := hM2.form hn2p
    refine wpAnyT_tail (i := 8) (o := ⟨some 28, _, _, _, _, _⟩) (by kernel_rfl) (by kernel_rfl) rfl (fun K hK => ?_)
    refine step_append_rows w v1 rfl (.tmp 23) (.tmp 27) 26 rfl 22 (.slice none 0 0) Tryd.underlying26 infoRows rfl B1 n1 c1 RA rfl hP1' hP2.keeps ⟨g2, 0, none⟩ n2 c2 RB vals2 rfl (by rw [hE2.1, hl2]) (hM2.1.cells (g := g2) rfl) hE2.weak hE2.cells hb12 ?_
    intro B9 c9 v9 hP9 _
    refine hK.out _ _ ?_
    clear hK K
    try simp only [Act.put, List.setIfInBounds_toArray, List.set_cons_zero, List.set_cons_succ]
    refine wpAnyT_tail (i := 9) (o := ⟨some 4, _, _, _, _, _⟩) (by kernel_rfl) (by kernel_rfl) rfl (fun K hK => ?_)
    go_simp
    refine hK.out _ _ ?_
    clear hK K
    try simp only [Act.put, List.setIfInBounds_toArray, List.set_cons_zero, List.set_cons_succ]
    refine wpAnyT_done (by kernel_rfl) ?_
    have hq9 := hP9.keeps
    go_upto_region 7 with fail
    refine wp_region_tail (S := Keeps (fun _ => False) v9) 13 (by kernel_rfl) (Keeps.refl _ _).drew (fun hHeld => ?_)
    refine wpAnyT_pure (i := 0) (oi := ⟨some 29, _, _, _, _, _⟩) (v := ?_) rfl (by kernel_rfl) (by kernel_rfl) (by kernel_rfl) (fun _ _ _ h => h) (Or.inl ⟨by rfl, ?_⟩) ?_
    rotate_left
    · intro w' hSw
      go_simp
      first | done | rfl
    try simp only [Act.put, List.setIfInBounds_toArray, List.set_cons_zero, List.set_cons_succ]
    refine wpAnyT_pure (i := 1) (oi := ⟨some 30, _, _, _, _, _⟩) (v := ?_) rfl (by kernel_rfl) (by kernel_rfl) (by kernel_rfl) (fun _ _ _ h => h) (Or.inl ⟨by rfl, ?_⟩) ?_
    rotate_left
    · intro w' hSw
      go_simp
      first | done | rfl
    try simp only [Act.put, List.setIfInBounds_toArray, List.set_cons_zero, List.set_cons_succ]
    refine wpAnyT_pure (i := 2) (oi := ⟨some 31, _, _, _, _, _⟩) (v := ?_) rfl (by kernel_rfl) (by kernel_rfl) (by kernel_rfl) (fun _ _ _ h => h) (Or.inl ⟨by rfl, ?_⟩) ?_
    rotate_left
    · intro w' hSw
      go_simp
      first | done | rfl
    try simp only [Act.put, List.setIfInBounds_toArray, List.set_cons_zero, List.set_cons_succ]
    refine wpAnyT_pure (i := 3) (oi := ⟨some 32, _, _, _, _, _⟩) (v := ?_) rfl (by kernel_rfl) (by kernel_rfl) (by kernel_rfl) (fun _ _ _ h => h) (Or.inl ⟨by rfl, ?_⟩) ?_
    rotate_left
    · intro w' hSw
      have cv := HC1.out w'
      go_simp
      first | done | rfl
    try simp only [Act.put, List.setIfInBounds_toArray, List.set_cons_zero, List.set_cons_succ]
    refine wpAnyT_pure (i := 6) (oi := ⟨some 35, _, _, _, _, _⟩) (v := ?_) rfl (by kernel_rfl) (by kernel_rfl) (by kernel_rfl) (fun _ _ _ h => h) (Or.inl ⟨by rfl, ?_⟩) ?_
    rotate_left
    · intro w' hSw
      go_simp
      first | done | rfl
    try simp only [Act.put, List.setIfInBounds_toArray, List.set_cons_zero, List.set_cons_succ]
    refine wpAnyT_pure (i := 7) (oi := ⟨some 36, _, _, _, _, _⟩) (v := ?_) rfl (by kernel_rfl) (by kernel_rfl) (by kernel_rfl) (fun _ _ _ h => h) (Or.inl ⟨by rfl, ?_⟩) ?_
    rotate_left
    · intro w' hSw
      go_simp
      first | done | rfl
    try simp only [Act.put, List.setIfInBounds_toArray, List.set_cons_zero, List.set_cons_succ]
    refine wpAnyT_pure (i := 8) (oi := ⟨some 37, _, _, _, _, _⟩) (v := ?_) rfl (by kernel_rfl) (by kernel_rfl) (by kernel_rfl) (fun _ _ _ h => h) (Or.inl ⟨by rfl, ?_⟩) ?_
    rotate_left
    · intro w' hSw
      have cv := HC2.out w'
      go_simp
      first | done | rfl
    try simp only [Act.put, List.setIfInBounds_toArray, List.set_cons_zero, List.set_cons_succ]
    refine wpAnyT_step (i := 4) (o := ⟨some 33, _, _, _, _, _⟩) (by kernel_rfl) rfl (fun K hK => ?_)
    go_simp
    refine (HL1.out _ (hq9.trans hHeld (fun _ _ h => h))).mono ?_
    rintro e u1 ⟨A1, d1, rfl, hD1⟩
    have hu1 := hHeld.trans hD1.2.2.2.1 (fun _ _ h => h)
    refine hK.out _ _ hu1 (fun hHeld => ?_)
    clear hK K
    try simp only [Act.put, List.setIfInBounds_toArray, List.set_cons_zero, List.set_cons_succ]
    refine wpAnyT_step (i := 5) (o := ⟨some 34, _, _, _, _, _⟩) (by kernel_rfl) rfl (fun K hK => ?_)
    go_simp
    refine (HRA.out _ _ _ _ hD1).mono ?_
    rintro e u2 ⟨rfl, hk2⟩
    have hu2 := hHeld.trans hk2 (fun _ _ h => h)
    refine hK.out _ _ hu2 (fun hHeld => ?_)
    clear hK K
    try simp only [Act.put, List.setIfInBounds_toArray, List.set_cons_zero, List.set_cons_succ]
    refine wpAnyT_step (i := 9) (o := ⟨some 38, _, _, _, _, _⟩) (by kernel_rfl) rfl (fun K hK => ?_)
    go_simp
    refine (HL2.out _ (hq9.trans hHeld (fun _ _ h => h))).mono ?_
    rintro e u3 ⟨A3, d3, rfl, hD3⟩
    have hu3 := hHeld.trans hD3.2.2.2.1 (fun _ _ h => h)
    refine hK.out _ _ hu3 (fun hHeld => ?_)
    clear hK K
    try simp only [Act.put, List.setIfInBounds_toArray, List.set_cons_zero, List.set_cons_succ]
    refine wpAnyT_step (i := 10) (o := ⟨some 39, _, _, _, _, _⟩) (by kernel_rfl) rfl (fun K hK => ?_)
    go_simp
    refine (HRB.out _ _ _ _ hD3).mono ?_
    rintro e u4 ⟨rfl, hk4⟩
    have hu4 := hHeld.trans hk4 (fun _ _ h => h)
    refine hK.out _ _ hu4 (fun hHeld => ?_)
    clear hK K
    try simp only [Act.put, List.setIfInBounds_toArray, List.set_cons_zero, List.set_cons_succ]
    refine wpAnyT_step (i := 11) (o := ⟨some 40, _, _, _, _, _⟩) (by kernel_rfl) rfl (fun K hK => ?_)
    go_simp
    refine (HPR.out _).mono ?_
    rintro e u5 ⟨A7, c7, rfl, hM7⟩
    have hu5 := hHeld.trans hM7.2.1 (fun _ _ h => h)
    have HE7 := HEL.out v9 u4 u5 A7 c7 hHeld hM7
    refine hK.out _ _ hu5 (fun hHeld => ?_)
    clear hK K
    try simp only [Act.put, List.setIfInBounds_toArray, List.set_cons_zero, List.set_cons_succ]
    refine wpAnyT_step (i := 12) (o := ⟨some 41, _, _, _, _, _⟩) (by kernel_rfl) rfl (fun K hK => ?_)
    go_simp
    refine hK.out _ _ (hHeld.alloc _) (fun hHeld => ?_)
    clear hK K
    try simp only [Act.put, List.setIfInBounds_toArray, List.set_cons_zero, List.set_cons_succ]
    refine wpAnyT_tail (i := 13) (o := ⟨some 42, _, _, _, _, _⟩) (by kernel_rfl) (by kernel_rfl) rfl (fun K hK => ?_)
    refine step_append_rows w v9 rfl (.tmp 29) (.tmp 41) 26 rfl 22 (.slice none 0 0) Tryd.underlying26 infoRows rfl B9 (n1 + n2) c9 (RA ++ RB) rfl hP9 (hu5.alloc (.cells #[Value.slice A7 65 c7] 22)) ⟨u5.heap.size, 0, none⟩ 1 1 [ROW] [Value.slice A7 65 c7] rfl rfl (cell_one_new u5 _ _) (HE7.keep ((Keeps.refl (fun _ => False) u5).alloc _) (fun _ _ h => h)) (by intro x hx; rw [List.mem_singleton.1 hx]; rfl) (by omega) ?_
    intro B10 c10 v10 hP10 _
    refine hK.out _ _ ?_
    clear hK K
    try simp only [Act.put, List.setIfInBounds_toArray, List.set_cons_zero, List.set_cons_succ]
    refine wpAnyT_tail (i := 14) (o := ⟨some 2, _, _, _, _, _⟩) (by kernel_rfl) (by kernel_rfl) rfl (fun K hK => ?_)
    go_simp
    refine hK.out _ _ ?_
    clear hK K
    try simp only [Act.put, List.setIfInBounds_toArray, List.set_cons_zero, List.set_cons_succ]
    refine wpAnyT_done (by kernel_rfl) ?_
    go_wp2
    go_ret
    exact ⟨B10, c10, rfl, hP10⟩
end Go.Proofs.YtknecjjdegngfaaDoor
