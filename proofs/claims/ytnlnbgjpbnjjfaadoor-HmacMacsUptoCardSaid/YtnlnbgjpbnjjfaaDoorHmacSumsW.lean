/-
  WALKS: the statement HmacSums.
-/
import Derived.Test.YtnlnbgjpbnjjfaaDoorRMacPW
import Derived.Test.YtnlnbgjpbnjjfaaDoorHmacBlocksW
set_option linter.unusedSimpArgs false
namespace Go.Proofs.YtnlnbgjpbnjjfaaDoor
open Go Go.RowKit Go.Sha Go.Aff Go.Mac

theorem neq_eql {P : Program} {w : World} {t : TypeId} {xs ys : Array Value} {b : Bool} (h : (binOp .eql t (.agg xs) (.agg ys)).run P w = .ok (.bool b) w) : (binOp .neq t (.agg xs) (.agg ys)).run P w = .ok (.bool (!b)) w := by
  rw [run_eql_struct] at h
  rw [run_neq_struct]
  cases hr : (Op.equalIn 10000 t (.agg xs) (.agg ys)).run P w with
  | halt a b' => rw [hr] at h; cases h
  | ok b' w' =>
    rw [hr] at h
    simp only [Result.andThen_ok] at h ⊢
    injection h with h1 h2
    injection h1 with h1
    rw [h1, h2]
theorem lentVals_one {w wr : World} {vals : List Value} {pss : List (List Int)} (h : LentVals w wr vals pss) : ∀ u ∈ vals, u.oneCell' = true := by
  intro u hu
  obtain ⟨i, hi⟩ := List.mem_iff_getElem?.1 hu
  have hlt : i < pss.length := by have := (List.getElem?_eq_some_iff.1 hi).1; rw [h.1] at this; exact this
  obtain ⟨g, cap, h1, _⟩ := h.2 i _ (List.getElem?_eq_getElem hlt)
  rw [hi] at h1
  injection h1 with h1
  rw [h1]; rfl
/-- The list that is handed in reads as the parts. -/
theorem fullAt_parts {w0 w1 wr : World} {A : Option Addr} {n k c : Nat} {vals : List Value} {pss : List (List Int)} (hf : FullAt w0 wr A n k c vals) (hv : LentVals w1 wr vals pss) (hnn : pss.length = n) (hb : ∀ bs ∈ pss, IsBytes bs) (hs : pss.flatten.length ≤ 140737488351232) : RdPartsO (fun _ => False) wr A pss := by
  obtain ⟨ms, hm, hvl, hml, _⟩ := hf
  have hr := (Rd.of_own hm.1).take (k := n) (by omega)
  rw [List.take_left' hvl] at hr
  rw [← hnn] at hr
  refine ⟨vals, hr, (fun _ _ _ h => h), fun i bs hi => ?_⟩
  obtain ⟨g, cap, h1, h2⟩ := hv.2 i bs hi
  have := part_le pss i bs hi
  exact ⟨_, _, h1, h2.rd rfl, (fun _ _ _ h => h), hb bs (List.mem_of_getElem? hi), by have := h2.cap; omega, by omega⟩

set_option maxHeartbeats 4000000 in
set_option maxRecDepth 100000 in
theorem hsums_any (w : World) (hG : Glob w) (A B : Option Addr) (n c m d : Nat) (key : List Int) (pss : List (List Int)) (hn : key.length = n) (hx : Rd w A n (vb key)) (bx : IsBytes key) (hm : n ≤ 140737488351232)
    (hnn : pss.length = m) (hr : RdPartsO (fun _ => False) w B pss) (hb : ∀ bs ∈ pss, IsBytes bs) (hm' : m ≤ 1048576) (hbig : pss.flatten.length ≤ 1048576) :
    Calls Tryd.prog 7 #[.slice A n c, .slice B m d] w fun e w' => e = .returned (.bool true) ∧ Keeps (fun _ => False) w w' := by
  have HL1 : Hid (Calls Tryd.prog 12 #[.slice A n c] w fun e w' => ∃ g cap, e = .returned (.slice (some ⟨g, 0, none⟩) n cap) ∧ Lent w w' g n cap key) := Lib.hid (lent_any w A n c key hn hx (by omega))
  have HLA : Hid (∀ W, Keeps (fun _ => False) w W → Calls Tryd.prog 25 #[.slice B m d] W fun e w' => ∃ A' c', e = .returned (.slice A' m c') ∧ LentAll W w' A' m c' pss) := Lib.hid fun W hk => lentAll_any W B m d pss hnn (hr.keep hk (fun _ h => h)) hm'
  have HOU : Hid (∀ W (vals : List Value) (A' : Option Addr) (c' : Nat), W.ownsRow 0 22 1 (.slice A' m c') m vals → (∀ u ∈ vals, u.oneCell' = true) → Calls Tryd.prog 26 #[.slice A' m c'] W fun e w' => ∃ g c', e = .returned (.tuple #[.slice (some ⟨g, 0, none⟩) m c', .slice (some ⟨g, 0, none⟩) (m + 20) c']) ∧ FullAt W w' (some ⟨g, 0, none⟩) m 20 c' vals) := Lib.hid fun W vals A' c' ho h1 => outer_any W A' m c' vals (Rd.of_own ho) h1 hm'
  have HRO : Hid (∀ W, Keeps (fun _ => False) w W → Calls Tryd.prog 27 #[.slice A n c, .slice B m d] W fun e w' => e = .returned (.agg (vb (macF key pss.flatten)).toArray) ∧ Keeps (fun _ => False) W w') := Lib.hid fun W hk => rmof_any W A B n c m d key pss hn (hx.keep hk (no_out _ _)) bx (by omega) hnn (hr.keep hk (fun _ h => h)) hb hm' hbig
  have HWK : Hid (∀ W, Keeps (fun _ => False) w W → Calls Tryd.prog 16 #[] W fun e w' => e = .returned (.bool true) ∧ Keeps (fun _ => False) W w') := Lib.hid fun W hk => wakes_any W (hG.keep hk (fun _ h => h.elim))
  have HALL : Hid (∀ (w1 w2 w3 : World) (g1 c1 : Nat) (A2 : Option Addr) (c2 g3 c3 : Nat) (vals : List Value), Lent w w1 g1 n c1 key → LentAll w1 w2 A2 m c2 pss → LentVals w1 w2 vals pss → FullAt w2 w3 (some ⟨g3, 0, none⟩) m 20 c3 vals → ∀ W, Keeps (fun _ => False) w3 W →
      (Calls Tryd.prog 19 #[.slice (some ⟨g1, 0, none⟩) n c1, .slice (some ⟨g3, 0, none⟩) m c3] W fun e w' => e = .returned (.agg (vb (macF key pss.flatten)).toArray) ∧ Keeps (fun _ => False) W w') ∧
      (Calls Tryd.prog 15 #[.slice (some ⟨g1, 0, none⟩) n c1, .slice A n c] W fun e w' => e = .returned (.bool true) ∧ Keeps (fun _ => False) W w') ∧
      (Calls Tryd.prog 28 #[.slice A2 m c2, .slice B m d] W fun e w' => e = .returned (.bool true) ∧ Keeps (fun _ => False) W w') ∧
      (Calls Tryd.prog 29 #[.slice (some ⟨g3, 0, none⟩) (m + 20) c3, .slice B m d] W fun e w' => e = .returned (.bool true) ∧ Keeps (fun _ => False) W w') ∧
      (∀ k, k < m → ∃ g o bs A' c', B = some ⟨g, o, none⟩ ∧ W.cell? ⟨g, o + k, none⟩ = some (.slice A' bs c') ∧ ∃ MS : List Value, MS.length = 32 ∧ (∀ W, (binOp .eql 41 (.agg MS.toArray) (.agg MS.toArray)).run Tryd.prog W = .ok (.bool true) W) ∧
        Calls Tryd.prog 12 #[.slice A' bs c'] W (fun e w' => ∃ g cap, e = .returned (.slice (some ⟨g, 0, none⟩) bs cap) ∧ Keeps (fun _ => False) W w' ∧ ∀ V, Keeps (fun _ => False) w' V →
          (Calls Tryd.prog 21 #[.slice (some ⟨g1, 0, none⟩) n c1, .slice (some ⟨g, 0, none⟩) bs cap] V fun e w' => e = .returned (.agg MS.toArray) ∧ Keeps (fun _ => False) V w') ∧
          (Calls Tryd.prog 30 #[.slice A n c, .slice A' bs c'] V fun e w' => e = .returned (.agg MS.toArray) ∧ Keeps (fun _ => False) V w') ∧
          (Calls Tryd.prog 15 #[.slice (some ⟨g, 0, none⟩) bs cap, .slice A' bs c'] V fun e w' => e = .returned (.bool true) ∧ Keeps (fun _ => False) V w')))) := Lib.hid fun w1 w2 w3 g1 c1 A2 c2 g3 c3 vals h1 h2 h2v h3 W hk => by
    have k12 : Keeps (fun _ => False) w1 w2 := by obtain ⟨_, a, _⟩ := h2; exact a.2.1
    have k23 : Keeps (fun _ => False) w2 w3 := by obtain ⟨_, a, _⟩ := h3; exact a.2.1
    have k2W : Keeps (fun _ => False) w2 W := k23.trans hk (fun _ _ h => h)
    have k1W : Keeps (fun _ => False) w1 W := k12.trans k2W (fun _ _ h => h)
    have hwW : Keeps (fun _ => False) w W := h1.2.1.trans k1W (fun _ _ h => h)
    have l1 := h1.keep k1W
    have hxW := hx.keep hwW (no_out _ _)
    have gW := hG.keep hwW (fun _ h => h.elim)
    have hc1 := l1.cap
    have same : ∀ {V e w'}, e = Ending.returned (.bool true) ∧ w' = V → e = Ending.returned (.bool true) ∧ Keeps (fun _ => False) V w' := fun ⟨a, b⟩ => ⟨a, by rw [b]; exact Keeps.refl _ _⟩
    have hvW : LentVals w1 W vals pss := h2v.keep k2W
    refine ⟨?_, (kept_any W w g1 n c1 A c key hn l1 hxW (by omega)).mono fun _ _ h => same h, keptAll_any W w1 A2 B m c2 d pss hnn (h2.keep k2W) (hr.keep hwW (fun _ h => h)) hm', ?_, fun k hlt => ?_⟩
    · exact hsum_any W gW _ n c1 key hn (l1.rd hn) bx (by omega) (by omega) _ m c3 pss hnn (fullAt_parts (h3.keep hk) hvW hnn hb (by omega)) (by omega) (by omega)
    · exact stays_any W w2 w1 g3 c3 vals B m d pss hnn (h3.keep hk) hvW (hr.keep hwW (fun _ h => h)) hm'
    · obtain ⟨g, o, bs, A', c', e1, e2, e3, e4, e5, e6, e7⟩ := hr.at (k := k) hwW (fun _ h => h) (by omega)
      refine ⟨g, o, bs.length, A', c', e1, e3, vb (macF key bs), by rw [vb_length, macF_length], dig_self _ (macF_length _ _), ?_⟩
      refine (lent_any W A' bs.length c' bs rfl e4 e7).mono fun e w' ⟨g4, cap4, he, hl⟩ => ⟨g4, cap4, he, hl.2.1, fun V hV => ?_⟩
      have l4 := hl.keep hV
      have hWV : Keeps (fun _ => False) W V := hl.2.1.trans hV (fun _ _ h => h)
      have hc4 := l4.cap
      exact ⟨hextract_any V (gW.keep hWV (fun _ h => h.elim)) _ n c1 key hn ((l1.keep hWV).rd hn) bx (by omega) (by omega) _ bs.length cap4 bs rfl (l4.rd rfl) e5 (by omega) e7,
        rmac_any V A A' n c bs.length c' key bs hn (hxW.keep hWV (no_out _ _)) bx (by omega) rfl (e4.keep hWV (no_out _ _)) e5 (by omega),
        (kept_any V W g4 bs.length cap4 A' c' bs rfl l4 (e4.keep hWV (no_out _ _)) e7).mono fun _ _ h => same h⟩
  have heq : ∀ W, (binOp .eql 41 (.agg (vb (macF key pss.flatten)).toArray) (.agg (vb (macF key pss.flatten)).toArray)).run Tryd.prog W = .ok (.bool true) W := dig_self _ (macF_length _ _)
  have hne : ∀ W, (binOp .neq 41 (.agg (vb (macF key pss.flatten)).toArray) (.agg (vb (macF key pss.flatten)).toArray)).run Tryd.prog W = .ok (.bool false) W := fun W => neq_eql (heq W)
  have HML : Hid ((vb (macF key pss.flatten)).length = 32) := Lib.hid (by rw [vb_length, macF_length])
  obtain ⟨MV, hMV⟩ : ∃ MV, MV = vb (macF key pss.flatten) := ⟨_, rfl⟩
  have HM1 : Hid (∀ u ∈ MV, u.oneCell' = true) := Lib.hid (by rw [hMV]; exact vb_one _)
  have HIN : Hid ((Tryd.prog.info? 40).map (·.size) = some MV.length) := Lib.hid (by rw [hMV, HML.out]; kernel_rfl)
  rw [← hMV] at HRO HALL HML
  simp only [← hMV] at hne
  have HNE := Lib.hid hne
  clear hMV heq hne hx hr bx hb hn hnn hG
  go_enter Tryd.func7, Tryd.ntmps7
  go_wp2_with (first
    | (go_at_call 12; refine HL1.out.mono ?_; rintro e w1 ⟨g1, c1, rfl, hl1⟩; have HX1 := Lib.hid hl1; clear hl1)
    | (go_at_call 25; refine (HLA.out _ HX1.out.2.1).mono ?_; rintro e w2 ⟨A2, c2, rfl, hl2⟩; have HX2 := Lib.hid hl2; obtain ⟨vals, hm2, hv2⟩ := hl2; have HM2 := Lib.hid hm2; have HV2 := Lib.hid hv2; clear hm2 hv2)
    | (go_at_call 26; refine (HOU.out w2 vals A2 c2 HM2.out.1 (lentVals_one HV2.out)).mono ?_; rintro e w3 ⟨g3, c3, rfl, hf3⟩; have hall := HALL.out w1 w2 w3 g1 c1 A2 c2 g3 c3 vals HX1.out HX2.out HV2.out hf3; have k23 : Keeps (fun _ => False) w2 w3 := (by obtain ⟨_, a, _⟩ := hf3; exact a.2.1); have HK3 := Lib.hid ((HX1.out.2.1.trans HM2.out.2.1 (fun _ _ h => h)).trans k23 (fun _ _ h => h)); have HALL2 := Lib.hid hall; clear hall hf3 k23)
    | (go_at_call 27; refine (HRO.out w3 HK3.out).mono ?_; rintro e w4 ⟨rfl, hk4⟩; have HK4 := Lib.hid hk4; have HZ4 := Lib.hid (Blk.new w4 40 (List.replicate 32 (Value.int .u8 0))); clear hk4)
    | ((with_reducible show wpList _ _ _ (⟨none, Op.store 40 _ _, _, _, _, _⟩ :: _) _ _); refine wpList_store_whole rfl 40 _ _ rfl MV rfl rfl HZ4.out (by rw [HML.out]; simp) (by rw [HML.out]; kernel_rfl) HM1.out ?_; have hb5 := HZ4.out.setRow MV; have hk5 := (HK4.out.alloc (.cells (List.replicate 32 (Value.int .u8 0)).toArray 40)).setRow (.inr HK4.out.size) MV.toArray; refine gen_world (fun W => Blk W w4.heap.size 40 MV ∧ Keeps (fun _ => False) w3 W) ⟨hb5, hk5⟩ ?_; clear hb5 hk5; rintro w5 ⟨hb5, hk5⟩; have HB5 := Lib.hid hb5; have HK5 := Lib.hid hk5; clear hb5 hk5))
  have HS := Lib.hid (fun W hk => (HALL2.out W (HK5.out.trans hk (fun _ _ h => h))).1)
  have HKP := Lib.hid (fun W hk => (HALL2.out W (HK5.out.trans hk (fun _ _ h => h))).2.1)
  have HKA := Lib.hid (fun W hk => (HALL2.out W (HK5.out.trans hk (fun _ _ h => h))).2.2.1)
  have HST := Lib.hid (fun W hk => (HALL2.out W (HK5.out.trans hk (fun _ _ h => h))).2.2.2.1)
  have HPA := Lib.hid (fun W hk => (HALL2.out W (HK5.out.trans hk (fun _ _ h => h))).2.2.2.2)
  have HRG : Hid (∀ W, Keeps (fun _ => False) w5 W → W.rangeAt w4.heap.size 0 MV) := Lib.hid fun W hk j v hv => by rw [Nat.zero_add, (hk.blk HB5.out (fun h => h)).cell, hv]
  have hne := HNE.out
  clear HALL HALL2 HLA HOU HRO
  refine wp_region_held_drew (S := Keeps (fun _ => False) w5) (by kernel_rfl) ((Keeps.refl (fun _ => False) _).drew) (fun hHeld => ?_)
  refine wpAnyH_take (i := 0) (oi := ⟨some 25, _, _, _, _, _⟩) (v := ?_) rfl (by kernel_rfl) (by kernel_rfl) (by kernel_rfl) (fun _ _ _ h => h) (Or.inl ⟨by rfl, ?_⟩) hHeld ?_
  rotate_left
  · intro w' hSw
    go_simp
    first | done | rfl
  try simp only [Act.put, List.setIfInBounds_toArray, List.set_cons_zero, List.set_cons_succ]
  refine wpAnyH_take (i := 1) (oi := ⟨some 26, _, _, _, _, _⟩) (v := ?_) rfl (by kernel_rfl) (by kernel_rfl) (by kernel_rfl) (fun _ _ _ h => h) (Or.inl ⟨by rfl, ?_⟩) hHeld ?_
  rotate_left
  · intro w' hSw
    go_simp
    first | done | rfl
  try simp only [Act.put, List.setIfInBounds_toArray, List.set_cons_zero, List.set_cons_succ]
  refine wpAnyH_take (i := 3) (oi := ⟨some 28, _, _, _, _, _⟩) (v := _) rfl (by kernel_rfl) (by kernel_rfl) (by kernel_rfl) (fun _ _ _ h => h) (yieldsIf_load_mid (by rfl) _ _ rfl _ _ rfl MV _ (fun w' h => HRG.out _ h) Tryd.underlying40 rfl HIN.out) hHeld ?_
  try simp only [Act.put, List.setIfInBounds_toArray, List.set_cons_zero, List.set_cons_succ]
  refine wpAnyH_ready (rs := [2]) (by kernel_rfl) (by simp) ?_
  refine AllReadyH.cons (o := ⟨some 27, _, _, _, _, _⟩) rfl (fun K hK => ?_) AllReadyH.nil
  go_simp
  refine (HS.out _ hHeld).mono ?_
  rintro e w6 ⟨rfl, hk6⟩
  have hq6 := hHeld.trans hk6 (fun _ _ h => h)
  show K _ w6
  refine hK.out _ _ hq6 (fun hHeld => ?_)
  clear hK K
  try simp only [Act.put, List.setIfInBounds_toArray, List.set_cons_zero, List.set_cons_succ]
  refine wpAnyH_take (i := 4) (oi := ⟨some 29, _, _, _, _, _⟩) (v := ?_) rfl (by kernel_rfl) (by kernel_rfl) (by kernel_rfl) (fun _ _ _ h => h) (Or.inl ⟨by rfl, ?_⟩) hHeld ?_
  rotate_left
  · intro w' hSw
    go_simp
    first | done | rfl
  try simp only [Act.put, List.setIfInBounds_toArray, List.set_cons_zero, List.set_cons_succ]
  refine wpAnyH_take (i := 5) (oi := ⟨some 30, _, _, _, _, _⟩) (v := ?_) rfl (by kernel_rfl) (by kernel_rfl) (by kernel_rfl) (fun _ _ _ h => h) (Or.inl ⟨by rfl, ?_⟩) hHeld ?_
  rotate_left
  · intro w' hSw
    go_simp
    first | done | rfl
  try simp only [Act.put, List.setIfInBounds_toArray, List.set_cons_zero, List.set_cons_succ]
  refine wpAnyH_take (i := 6) (oi := ⟨some 31, _, _, _, _, _⟩) (v := ?_) rfl (by kernel_rfl) (by kernel_rfl) (by kernel_rfl) (fun _ _ _ h => h) (Or.inl ⟨by rfl, ?_⟩) hHeld ?_
  rotate_left
  · intro w' hSw
    go_simp
    first | done | rfl
  try simp only [Act.put, List.setIfInBounds_toArray, List.set_cons_zero, List.set_cons_succ]
  refine wpAnyH_take (i := 7) (oi := ⟨some 32, _, _, _, _, _⟩) (v := ?_) rfl (by kernel_rfl) (by kernel_rfl) (by kernel_rfl) (fun _ _ _ h => h) (Or.inl ⟨by rfl, ?_⟩) hHeld ?_
  rotate_left
  · intro w' hSw
    go_simp
    first | done | rfl
  try simp only [Act.put, List.setIfInBounds_toArray, List.set_cons_zero, List.set_cons_succ]
  refine wpAnyH_take (i := 9) (oi := ⟨some 34, _, _, _, _, _⟩) (v := _) rfl (by kernel_rfl) (by kernel_rfl) (by kernel_rfl) (fun _ _ _ h => h) (yieldsIf_load_mid (by rfl) _ _ rfl _ _ rfl MV _ (fun w' h => HRG.out _ h) Tryd.underlying40 rfl HIN.out) hHeld ?_
  try simp only [Act.put, List.setIfInBounds_toArray, List.set_cons_zero, List.set_cons_succ]
  refine wpAnyH_ready (rs := [8]) (by kernel_rfl) (by simp) ?_
  refine AllReadyH.cons (o := ⟨some 33, _, _, _, _, _⟩) rfl (fun K hK => ?_) AllReadyH.nil
  go_simp
  refine (HS.out _ hHeld).mono ?_
  rintro e w7 ⟨rfl, hk7⟩
  have hq7 := hHeld.trans hk7 (fun _ _ h => h)
  show K _ w7
  refine hK.out _ _ hq7 (fun hHeld => ?_)
  clear hK K
  try simp only [Act.put, List.setIfInBounds_toArray, List.set_cons_zero, List.set_cons_succ]
  refine wpAnyH_take (i := 10) (oi := ⟨some 35, _, _, _, _, _⟩) (v := ?_) rfl (by kernel_rfl) (by kernel_rfl) (by kernel_rfl) (fun _ _ _ h => h) (Or.inl ⟨by rfl, ?_⟩) hHeld ?_
  rotate_left
  · intro w' hSw
    go_simp
    first | done | rfl
  try simp only [Act.put, List.setIfInBounds_toArray, List.set_cons_zero, List.set_cons_succ]
  refine wpAnyH_take (i := 11) (oi := ⟨some 36, _, _, _, _, _⟩) (v := ?_) rfl (by kernel_rfl) (by kernel_rfl) (by kernel_rfl) (fun _ _ _ h => h) (Or.inl ⟨by rfl, ?_⟩) hHeld ?_
  rotate_left
  · intro w' hSw
    go_simp
    first | done | rfl
  try simp only [Act.put, List.setIfInBounds_toArray, List.set_cons_zero, List.set_cons_succ]
  refine wpAnyH_take (i := 12) (oi := ⟨some 37, _, _, _, _, _⟩) (v := ?_) rfl (by kernel_rfl) (by kernel_rfl) (by kernel_rfl) (fun _ _ _ h => h) (Or.inl ⟨by rfl, ?_⟩) hHeld ?_
  rotate_left
  · intro w' hSw
    go_simp
    first | done | rfl
  try simp only [Act.put, List.setIfInBounds_toArray, List.set_cons_zero, List.set_cons_succ]
  refine wpAnyH_take (i := 13) (oi := ⟨some 38, _, _, _, _, _⟩) (v := ?_) rfl (by kernel_rfl) (by kernel_rfl) (by kernel_rfl) (fun _ _ _ h => h) (Or.inl ⟨by rfl, ?_⟩) hHeld ?_
  rotate_left
  · intro w' hSw
    go_simp
    first | done | rfl
  try simp only [Act.put, List.setIfInBounds_toArray, List.set_cons_zero, List.set_cons_succ]
  refine wpAnyH_take (i := 14) (oi := ⟨some 39, _, _, _, _, _⟩) (v := ?_) rfl (by kernel_rfl) (by kernel_rfl) (by kernel_rfl) (fun _ _ _ h => h) (Or.inl ⟨by rfl, ?_⟩) hHeld ?_
  rotate_left
  · intro w' hSw
    go_simp
    first | done | rfl
  try simp only [Act.put, List.setIfInBounds_toArray, List.set_cons_zero, List.set_cons_succ]
  refine wpAnyH_ready (rs := [15]) (by kernel_rfl) (by simp) ?_
  refine AllReadyH.cons (o := ⟨some 40, _, _, _, _, _⟩) rfl (fun K hK => ?_) AllReadyH.nil
  go_simp
  refine (HKP.out _ hHeld).mono ?_
  rintro e w8 ⟨rfl, hk8⟩
  have hq8 := hHeld.trans hk8 (fun _ _ h => h)
  show K _ w8
  refine hK.out _ _ hq8 (fun hHeld => ?_)
  clear hK K
  try simp only [Act.put, List.setIfInBounds_toArray, List.set_cons_zero, List.set_cons_succ]
  refine wpAnyH_take (i := 16) (oi := ⟨some 41, _, _, _, _, _⟩) (v := ?_) rfl (by kernel_rfl) (by kernel_rfl) (by kernel_rfl) (fun _ _ _ h => h) (Or.inl ⟨by rfl, ?_⟩) hHeld ?_
  rotate_left
  · intro w' hSw
    go_simp
    first | done | rfl
  try simp only [Act.put, List.setIfInBounds_toArray, List.set_cons_zero, List.set_cons_succ]
  refine wpAnyH_take (i := 17) (oi := ⟨some 42, _, _, _, _, _⟩) (v := ?_) rfl (by kernel_rfl) (by kernel_rfl) (by kernel_rfl) (fun _ _ _ h => h) (Or.inl ⟨by rfl, ?_⟩) hHeld ?_
  rotate_left
  · intro w' hSw
    go_simp
    first | done | rfl
  try simp only [Act.put, List.setIfInBounds_toArray, List.set_cons_zero, List.set_cons_succ]
  refine wpAnyH_take (i := 18) (oi := ⟨some 43, _, _, _, _, _⟩) (v := ?_) rfl (by kernel_rfl) (by kernel_rfl) (by kernel_rfl) (fun _ _ _ h => h) (Or.inl ⟨by rfl, ?_⟩) hHeld ?_
  rotate_left
  · intro w' hSw
    go_simp
    first | done | rfl
  try simp only [Act.put, List.setIfInBounds_toArray, List.set_cons_zero, List.set_cons_succ]
  refine wpAnyH_take (i := 19) (oi := ⟨some 44, _, _, _, _, _⟩) (v := ?_) rfl (by kernel_rfl) (by kernel_rfl) (by kernel_rfl) (fun _ _ _ h => h) (Or.inl ⟨by rfl, ?_⟩) hHeld ?_
  rotate_left
  · intro w' hSw
    go_simp
    first | done | rfl
  try simp only [Act.put, List.setIfInBounds_toArray, List.set_cons_zero, List.set_cons_succ]
  refine wpAnyH_take (i := 20) (oi := ⟨some 45, _, _, _, _, _⟩) (v := ?_) rfl (by kernel_rfl) (by kernel_rfl) (by kernel_rfl) (fun _ _ _ h => h) (Or.inl ⟨by rfl, ?_⟩) hHeld ?_
  rotate_left
  · intro w' hSw
    go_simp
    first | done | rfl
  try simp only [Act.put, List.setIfInBounds_toArray, List.set_cons_zero, List.set_cons_succ]
  refine wpAnyH_ready (rs := [21]) (by kernel_rfl) (by simp) ?_
  refine AllReadyH.cons (o := ⟨some 46, _, _, _, _, _⟩) rfl (fun K hK => ?_) AllReadyH.nil
  go_simp
  refine (HKA.out _ hHeld).mono ?_
  rintro e w9 ⟨rfl, hk9⟩
  have hq9 := hHeld.trans hk9 (fun _ _ h => h)
  show K _ w9
  refine hK.out _ _ hq9 (fun hHeld => ?_)
  clear hK K
  try simp only [Act.put, List.setIfInBounds_toArray, List.set_cons_zero, List.set_cons_succ]
  refine wpAnyH_take (i := 22) (oi := ⟨some 47, _, _, _, _, _⟩) (v := ?_) rfl (by kernel_rfl) (by kernel_rfl) (by kernel_rfl) (fun _ _ _ h => h) (Or.inl ⟨by rfl, ?_⟩) hHeld ?_
  rotate_left
  · intro w' hSw
    go_simp
    first | done | rfl
  try simp only [Act.put, List.setIfInBounds_toArray, List.set_cons_zero, List.set_cons_succ]
  refine wpAnyH_take (i := 23) (oi := ⟨some 48, _, _, _, _, _⟩) (v := ?_) rfl (by kernel_rfl) (by kernel_rfl) (by kernel_rfl) (fun _ _ _ h => h) (Or.inl ⟨by rfl, ?_⟩) hHeld ?_
  rotate_left
  · intro w' hSw
    go_simp
    first | done | rfl
  try simp only [Act.put, List.setIfInBounds_toArray, List.set_cons_zero, List.set_cons_succ]
  refine wpAnyH_take (i := 24) (oi := ⟨some 49, _, _, _, _, _⟩) (v := ?_) rfl (by kernel_rfl) (by kernel_rfl) (by kernel_rfl) (fun _ _ _ h => h) (Or.inl ⟨by rfl, ?_⟩) hHeld ?_
  rotate_left
  · intro w' hSw
    go_simp
    first | done | rfl
  try simp only [Act.put, List.setIfInBounds_toArray, List.set_cons_zero, List.set_cons_succ]
  refine wpAnyH_take (i := 25) (oi := ⟨some 50, _, _, _, _, _⟩) (v := ?_) rfl (by kernel_rfl) (by kernel_rfl) (by kernel_rfl) (fun _ _ _ h => h) (Or.inl ⟨by rfl, ?_⟩) hHeld ?_
  rotate_left
  · intro w' hSw
    go_simp
    first | done | rfl
  try simp only [Act.put, List.setIfInBounds_toArray, List.set_cons_zero, List.set_cons_succ]
  refine wpAnyH_take (i := 26) (oi := ⟨some 51, _, _, _, _, _⟩) (v := ?_) rfl (by kernel_rfl) (by kernel_rfl) (by kernel_rfl) (fun _ _ _ h => h) (Or.inl ⟨by rfl, ?_⟩) hHeld ?_
  rotate_left
  · intro w' hSw
    go_simp
    first | done | rfl
  try simp only [Act.put, List.setIfInBounds_toArray, List.set_cons_zero, List.set_cons_succ]
  refine wpAnyH_ready (rs := [27]) (by kernel_rfl) (by simp) ?_
  refine AllReadyH.cons (o := ⟨some 52, _, _, _, _, _⟩) rfl (fun K hK => ?_) AllReadyH.nil
  go_simp
  refine (HST.out _ hHeld).mono ?_
  rintro e w10 ⟨rfl, hk10⟩
  have hq10 := hHeld.trans hk10 (fun _ _ h => h)
  show K _ w10
  refine hK.out _ _ hq10 (fun hHeld => ?_)
  clear hK K
  try simp only [Act.put, List.setIfInBounds_toArray, List.set_cons_zero, List.set_cons_succ]
  refine wpAnyH_take (i := 28) (oi := ⟨some 53, _, _, _, _, _⟩) (v := ?_) rfl (by kernel_rfl) (by kernel_rfl) (by kernel_rfl) (fun _ _ _ h => h) (Or.inl ⟨by rfl, ?_⟩) hHeld ?_
  rotate_left
  · intro w' hSw
    go_simp
    first | done | rfl
  try simp only [Act.put, List.setIfInBounds_toArray, List.set_cons_zero, List.set_cons_succ]
  refine wpAnyH_take (i := 29) (oi := ⟨some 54, _, _, _, _, _⟩) (v := ?_) rfl (by kernel_rfl) (by kernel_rfl) (by kernel_rfl) (fun _ _ _ h => h) (Or.inl ⟨by rfl, ?_⟩) hHeld ?_
  rotate_left
  · intro w' hSw
    go_simp
    first | done | rfl
  try simp only [Act.put, List.setIfInBounds_toArray, List.set_cons_zero, List.set_cons_succ]
  refine wpAnyH_done (by kernel_rfl) ?_ _
  have HK10 := Lib.hid hHeld
  clear hHeld hne hq6 hq7 hq8 hq9 hq10
  go_wp2
  go_loopw [11, 12, 57] (fun _ _ i wr => ∃ k : Nat, k ≤ m ∧ i = .int .i64 k ∧ Hid (Keeps (fun _ => False) w5 wr)) (fun _ _ i _ => m - (intOf i).toNat)
  case atStart => exact ⟨0, by omega, rfl, HK10⟩
  case round =>
    clear HK10
    obtain ⟨k, hk, rfl, HKR⟩ := hrel
    by_cases hlt : k < m
    · obtain ⟨g, o, q, A', c', hB, hcb, MS, hMS, heqs, hle⟩ := HPA.out wr HKR.out k hlt
      subst hB
      have hnes : ∀ W, (binOp .neq 41 (.agg MS.toArray) (.agg MS.toArray)).run Tryd.prog W = .ok (.bool false) W := fun W => neq_eql (heqs W)
      have HLE := Lib.hid hle
      clear hle heqs hMS
      go_wp2_with (first
        | (go_at_call 12; refine HLE.out.mono ?_; rintro e x1 ⟨g4, cap4, rfl, hk1, hv⟩; have HV := Lib.hid hv; have HX1 := Lib.hid hk1; clear hk1 hv)
        | (go_at_call 21; refine (HV.out x1 (Keeps.refl _ _)).1.mono ?_; rintro e x2 ⟨rfl, hk2⟩; have HX2 := Lib.hid hk2; clear hk2)
        | (go_at_call 30; refine (HV.out x2 HX2.out).2.1.mono ?_; rintro e x3 ⟨rfl, hk3⟩; have HX3 := Lib.hid (HX2.out.trans hk3 (fun _ _ h => h)); clear hk3)
        | (go_at_call 15; refine (HV.out x3 HX3.out).2.2.mono ?_; rintro e x4 ⟨rfl, hk4⟩; have HX4 := Lib.hid ((HKR.out.trans HX1.out (fun _ _ h => h)).trans (HX3.out.trans hk4 (fun _ _ h => h)) (fun _ _ h => h)); clear hk4))
      go_roundw
      case rel => exact ⟨k + 1, by omega, by go_num, HX4⟩
      case measure => simp [intOf]; omega
    · go_wp2_with (first
        | (go_at_call 15; refine (HKP.out wr HKR.out).mono ?_; rintro e x1 ⟨rfl, hk1⟩; have HX1 := Lib.hid (HKR.out.trans hk1 (fun _ _ h => h)); have HX2 := Lib.hid ((HK3.out.trans HK5.out (fun _ _ h => h)).trans HX1.out (fun _ _ h => h)); clear hk1)
        | (go_at_call 16; refine (HWK.out x1 HX2.out).mono ?_; rintro e x2 ⟨rfl, hk2⟩; have HX3 := Lib.hid (HX2.out.trans hk2 (fun _ _ h => h)); clear hk2))
      go_ret
      exact ⟨rfl, HX3.out⟩
end Go.Proofs.YtnlnbgjpbnjjfaaDoor
