/-
  WALKS: the statement HmacGrows.
-/
import Derived.Test.YtnlnbgjpbnjjfaaDoorExpandW
import Derived.Test.YtnlnbgjpbnjjfaaDoorStrL
set_option linter.unusedSimpArgs false
namespace Go.Mac
/-- What may be asked for at most. -/
def mostF (z : Int) : Nat := (min (max z 0) 8160).toNat
theorem mostF_le (z : Int) : mostF z ≤ 8160 := by unfold mostF; omega
theorem expF_pre (key info : List Int) {K N : Nat} (h : K ≤ N) : (expF key info N).take K = expF key info K := by
  have h1 : tN K ≤ tN N := by unfold tN; omega
  obtain ⟨d, hd⟩ := Nat.exists_eq_add_of_le h1
  have h2 : K ≤ 32 * tN K := by unfold tN; omega
  unfold expF
  rw [List.take_take, Nat.min_eq_left h, hd, expL_take key info K _ d h2]
theorem expL_drop (key info : List Int) (t : Nat) : (expL key info (t + 1)).drop (32 * t) = tF key info (t + 1) := by
  rw [expL, List.drop_append_of_le_length (by rw [expL_length]; omega), List.drop_eq_nil_of_le (by rw [expL_length]; omega), List.nil_append]
theorem expF_at (key info : List Int) (t N : Nat) (h : 32 * t + 32 ≤ N) : ((expF key info N).drop (32 * t)).take 32 = tF key info (t + 1) := by
  have h1 : (expF key info N).take (32 * (t + 1)) = expF key info (32 * (t + 1)) := expF_pre key info (by omega)
  have h2 : tN (32 * (t + 1)) = t + 1 := by unfold tN; omega
  have h3 : ((expF key info N).drop (32 * t)).take 32 = ((expF key info N).take (32 * (t + 1))).drop (32 * t) := by
    rw [List.drop_take, show 32 * (t + 1) - 32 * t = 32 by omega]
  rw [h3, h1]
  unfold expF
  rw [h2, List.take_of_length_le (by rw [expL_length]; omega), expL_drop]
end Go.Mac
namespace Go.Aff
open Go Go.RowKit
section
variable {P : Program} {T e : TypeId}
theorem cut_lhm (hu : P.underlying T = some (.slice e)) (hz : (P.info? e).map (·.size) = some 1) (A : Option Addr) (n c l h : Nat) (li hi mi : Int) (hli : li = l) (hhi : hi = h) (hmi : mi = h) (h1 : l ≤ h) (h2 : h ≤ c) (w : World) :
    (Instr.sliceAt T (.slice A n c) (some (.int .i64 li)) (some (.int .i64 hi)) (some (.int .i64 mi))).run P w = .ok (.slice (cutA A h l) (h - l) (h - l)) w := by
  subst hli hhi hmi
  have hu' : P.underlying T = some (.slice (P.elem T)) := by rw [elem_of hu]; exact hu
  rw [run_sliceAt_slice w T _ _ _ _ hu', run_slice_lhm w T A n c hu' .i64 .i64 .i64 l h h (by omega) (by omega) (by omega) (by omega), size_one hu hz]
  simp [sliced, cutA]
end
theorem Mine.cap {w wr : World} {e : TypeId} {A : Option Addr} {m c : Nat} {xs : List Value} (h : Mine w wr e A m c xs) : m ≤ c := by
  rcases Nat.eq_zero_or_pos m with rfl | hp
  · omega
  · obtain ⟨g, _, _, h3⟩ := h.form hp
    exact h3
end Go.Aff
namespace Go.Proofs.YtnlnbgjpbnjjfaaDoor
open Go Go.RowKit Go.Sha Go.Aff Go.Mac

set_option maxRecDepth 100000 in
theorem most_any (w : World) (z : Int) : Calls Tryd.prog 24 #[.int .i64 z] w fun e w' => e = .returned (.int .i64 (mostF z)) ∧ w' = w := by
  by_cases h1 : z < 0
  · have h2 : ((mostF z : Nat) : Int) = 0 := by unfold mostF; omega
    rw [h2]
    go_enter Tryd.func24, Tryd.ntmps24
    go_wp2
    all_goals (go_ret; exact ⟨rfl, rfl⟩)
  · by_cases h3 : 8160 < z
    · have h2 : ((mostF z : Nat) : Int) = 8160 := by unfold mostF; omega
      rw [h2]
      go_enter Tryd.func24, Tryd.ntmps24
      go_wp2
      all_goals (go_ret; exact ⟨rfl, rfl⟩)
    · have h2 : ((mostF z : Nat) : Int) = z := by unfold mostF; omega
      rw [h2]
      go_enter Tryd.func24, Tryd.ntmps24
      go_wp2
      all_goals (go_ret; exact ⟨rfl, rfl⟩)

set_option maxHeartbeats 4000000 in
set_option maxRecDepth 100000 in
theorem hgrows_any (w : World) (hG : Glob w) (A B : Option Addr) (n c m d : Nat) (key info : List Int) (x y : Int)
    (hn : key.length = n) (hx : Rd w A n (vb key)) (bx : IsBytes key) (hc : n ≤ c) (hm : n ≤ 140737488351232)
    (hn' : info.length = m) (hy : Rd w B m (vb info)) (by' : IsBytes info) (hc' : m ≤ d) (hm' : m ≤ 140737488351232) :
    Calls Tryd.prog 6 #[.agg #[.slice A n c, .slice B m d, .int .i64 x, .int .i64 y]] w fun e w' => e = .returned (.bool true) ∧ Keeps (fun _ => False) w w' := by
  have HEX : Hid (∀ (W : World) (N : Nat), Keeps (fun _ => False) w W → N ≤ 8160 → Calls Tryd.prog 23 #[.slice A n c, .slice B m d, .int .i64 N] W fun e w' => ∃ A' c', e = .returned (.tuple #[.slice A' N c', .nilIface]) ∧ Mine W w' 5 A' N c' (vb (expF key info N))) := Lib.hid fun W N hk hN =>
    hexpand_any W (hG.keep hk (fun _ h => h.elim)) A B n c m d key info N hn (hx.keep hk (no_out _ _)) bx hc hm hn' (hy.keep hk (no_out _ _)) by' hc' hm' hN
  have HWK : Hid (∀ W, Keeps (fun _ => False) w W → Calls Tryd.prog 16 #[] W fun e w' => e = .returned (.bool true) ∧ Keeps (fun _ => False) W w') := Lib.hid fun W hk => wakes_any W (hG.keep hk (fun _ h => h.elim))
  have HS3 : Hid (∀ (W : World) (Al : Option Addr) (nl cl t : Nat), Keeps (fun _ => False) w W → t < 255 → (tF key info t).length = nl → Rd W Al nl (vb (tF key info t)) → nl ≤ cl → nl ≤ 32 → Calls Tryd.prog 19 #[.slice A n c, .slice (some ⟨W.heap.size + 1, 0, none⟩) 3 3] ((W.alloc (.cells #[.int .u8 ((t : Int) + 1)] 5)).alloc (.cells #[.slice Al nl cl, .slice B m d, .slice (some ⟨W.heap.size, 0, none⟩) 1 1] 22)) fun e w' => e = .returned (.agg (vb (tF key info (t + 1))).toArray) ∧ Keeps (fun _ => False) W w') := Lib.hid fun W Al nl cl t hk ht hl hr hle h32 =>
    hsum_three W (hG.keep hk (fun _ h => h.elim)) A n c key hn (hx.keep hk (no_out _ _)) bx hc hm Al nl cl (tF key info t) hl hr (tF_bytes _ _ _) hle (by omega) B m d info hn' (hy.keep hk (no_out _ _)) by' hc' hm' ((t : Int) + 1) (by omega)
  have HBX := Blk.new w 47 [.slice A n c, .slice B m d, .int .i64 x, .int .i64 y]
  have HBC : Hid (∀ W, Keeps (fun _ => False) (w.alloc (.cells #[.slice A n c, .slice B m d, .int .i64 x, .int .i64 y] 47)) W → W.cell? ⟨w.heap.size, 0, none⟩ = some (.slice A n c) ∧ W.cell? ⟨w.heap.size, 1, none⟩ = some (.slice B m d) ∧ W.cell? ⟨w.heap.size, 2, none⟩ = some (.int .i64 x) ∧ W.cell? ⟨w.heap.size, 3, none⟩ = some (.int .i64 y)) := Lib.hid fun W hk => by
    have hb := hk.blk HBX (fun h => h)
    exact ⟨hb.cell 0, hb.cell 1, hb.cell 2, hb.cell 3⟩
  obtain ⟨a0, b0, c0, d0⟩ := HBC.out _ (Keeps.refl _ _)
  have hka : Keeps (fun _ => False) w (w.alloc (.cells #[.slice A n c, .slice B m d, .int .i64 x, .int .i64 y] 47)) := (Keeps.refl _ w).alloc _
  have HKA := Lib.hid hka
  have hNa := mostF_le x
  have hNb := mostF_le y
  obtain ⟨Na, hNa'⟩ : ∃ Na, Na = mostF x := ⟨_, rfl⟩
  obtain ⟨Nb, hNb'⟩ : ∃ Nb, Nb = mostF y := ⟨_, rfl⟩
  have HMX : Hid (∀ W, Calls Tryd.prog 24 #[.int .i64 x] W fun e w' => e = .returned (.int .i64 (Na : Int)) ∧ w' = W) := Lib.hid fun W => by rw [hNa']; exact most_any W x
  have HMY : Hid (∀ W, Calls Tryd.prog 24 #[.int .i64 y] W fun e w' => e = .returned (.int .i64 (Nb : Int)) ∧ w' = W) := Lib.hid fun W => by rw [hNb']; exact most_any W y
  rw [← hNa'] at hNa
  rw [← hNb'] at hNb
  clear hNa' hNb' HBX hka hx hy bx by' hn hn' hG
  go_enter Tryd.func6, Tryd.ntmps6
  go_wp2
  refine wp_region_held_drew (S := Keeps (fun _ => False) (w.alloc (.cells #[.slice A n c, .slice B m d, .int .i64 x, .int .i64 y] 47))) (by kernel_rfl) ((Keeps.refl _ _).drew) (fun hHeld => ?_)
  refine wpAnyH_take (i := 0) (oi := ⟨some 13, _, _, _, _, _⟩) (v := ?_) rfl (by kernel_rfl) (by kernel_rfl) (by kernel_rfl) (fun _ _ _ h => h) (Or.inl ⟨by rfl, ?_⟩) hHeld ?_
  rotate_left
  · intro w' hSw
    go_simp
    first | done | rfl
  try simp only [Act.put, List.setIfInBounds_toArray, List.set_cons_zero, List.set_cons_succ]
  refine wpAnyH_take (i := 1) (oi := ⟨some 14, _, _, _, _, _⟩) (v := ?_) rfl (by kernel_rfl) (by kernel_rfl) (by kernel_rfl) (fun _ _ _ h => h) (Or.inl ⟨by rfl, ?_⟩) hHeld ?_
  rotate_left
  · intro w' hSw
    have hc0 := (HBC.out _ hSw).1
    go_simp
    first | done | rfl
  try simp only [Act.put, List.setIfInBounds_toArray, List.set_cons_zero, List.set_cons_succ]
  refine wpAnyH_take (i := 2) (oi := ⟨some 15, _, _, _, _, _⟩) (v := ?_) rfl (by kernel_rfl) (by kernel_rfl) (by kernel_rfl) (fun _ _ _ h => h) (Or.inl ⟨by rfl, ?_⟩) hHeld ?_
  rotate_left
  · intro w' hSw
    go_simp
    first | done | rfl
  try simp only [Act.put, List.setIfInBounds_toArray, List.set_cons_zero, List.set_cons_succ]
  refine wpAnyH_take (i := 3) (oi := ⟨some 16, _, _, _, _, _⟩) (v := ?_) rfl (by kernel_rfl) (by kernel_rfl) (by kernel_rfl) (fun _ _ _ h => h) (Or.inl ⟨by rfl, ?_⟩) hHeld ?_
  rotate_left
  · intro w' hSw
    have hc1 := (HBC.out _ hSw).2.1
    go_simp
    first | done | rfl
  try simp only [Act.put, List.setIfInBounds_toArray, List.set_cons_zero, List.set_cons_succ]
  refine wpAnyH_take (i := 4) (oi := ⟨some 3, _, _, _, _, _⟩) (v := ?_) rfl (by kernel_rfl) (by kernel_rfl) (by kernel_rfl) (fun _ _ _ h => h) (Or.inl ⟨by rfl, ?_⟩) hHeld ?_
  rotate_left
  · intro w' hSw
    go_simp
    first | done | rfl
  try simp only [Act.put, List.setIfInBounds_toArray, List.set_cons_zero, List.set_cons_succ]
  refine wpAnyH_take (i := 5) (oi := ⟨some 4, _, _, _, _, _⟩) (v := ?_) rfl (by kernel_rfl) (by kernel_rfl) (by kernel_rfl) (fun _ _ _ h => h) (Or.inl ⟨by rfl, ?_⟩) hHeld ?_
  rotate_left
  · intro w' hSw
    go_simp
    first | done | rfl
  try simp only [Act.put, List.setIfInBounds_toArray, List.set_cons_zero, List.set_cons_succ]
  refine wpAnyH_done (by kernel_rfl) ?_ _
  have HKD : Hid (Keeps (fun _ => False) w ((w.alloc (.cells #[.slice A n c, .slice B m d, .int .i64 x, .int .i64 y] 47))).drew) := Lib.hid HKA.out.drew
  have tok1 : True := trivial
  go_wp2_with (first
    | (go_at_call 24; first | (refine (HMX.out _).mono ?_; rintro e wm ⟨rfl, hwm⟩; rw [hwm]; clear hwm wm) | (refine (HMY.out _).mono ?_; rintro e wm ⟨rfl, hwm⟩; rw [hwm]; clear hwm wm))
    | (go_at_call 23; have _t := tok1; clear tok1; refine (HEX.out _ Na HKD.out hNa).mono ?_; rintro e w2 ⟨Aa, ca, rfl, hm2⟩; have hk02 := ((Keeps.refl (fun _ => False) (w.alloc (.cells #[.slice A n c, .slice B m d, .int .i64 x, .int .i64 y] 47))).drew.trans hm2.2.1 (fun _ _ h => h)); obtain ⟨-, -, a2, b2⟩ := HBC.out _ hk02; have HM2 := Lib.hid hm2; have HK02 := Lib.hid hk02; clear hm2 hk02)
    | (go_at_call 23; refine (HEX.out _ Nb (HKA.out.trans HK02.out (fun _ _ h => h)) hNb).mono ?_; rintro e w3 ⟨Ab, cb, rfl, hm3⟩; have hk03 := HK02.out.trans hm3.2.1 (fun _ _ h => h); obtain ⟨-, -, a3, b3⟩ := HBC.out _ hk03; have HM3 := Lib.hid hm3; have HMA := Lib.hid (HM2.out.keep hm3.2.1); have HK03 := Lib.hid hk03; clear hm3 hk03))
  · have hcap1 : Na ≤ ca := HMA.out.cap
    have hcap2 : Nb ≤ cb := HM3.out.cap
    have hc1 := cut_h (P := Tryd.prog) Tryd.underlying22 (by kernel_rfl) Aa Na ca Nb Nb rfl (by omega)
    have hc2 := cut_h (P := Tryd.prog) Tryd.underlying22 (by kernel_rfl) Ab Nb cb Nb Nb rfl (by omega)
    have hrA : Rd w3 Aa Na (vb (expF key info Na)) := Rd.of_own HMA.out.1
    have hrB : Rd w3 Ab Nb (vb (expF key info Nb)) := Rd.of_own HM3.out.1
    have hr1 : Rd w3 (cutA Aa ca 0) Nb (vb (expF key info Nb)) := by
      have h3 := (hrA.cutA (l := 0) (c := ca) (by omega) hcap1).take (k := Nb) (by omega)
      rw [← expF_pre key info (K := Nb) (N := Na) (by omega)]
      simpa [vb, List.map_take] using h3
    have hr2 : Rd w3 (cutA Ab cb 0) Nb (vb (expF key info Nb)) := by
      have h3 := (hrB.cutA (l := 0) (c := cb) (by omega) hcap2).take (k := Nb) (by omega)
      rw [← expF_pre key info (K := Nb) (N := Nb) (by omega)]
      simpa [vb, List.map_take] using h3
    obtain ⟨A1, hA1⟩ : ∃ A1, A1 = cutA Aa ca 0 := ⟨_, rfl⟩
    obtain ⟨A2, hA2⟩ : ∃ A2, A2 = cutA Ab cb 0 := ⟨_, rfl⟩
    rw [← hA1] at hc1 hr1
    rw [← hA2] at hc2 hr2
    have CA : Hid (∀ W, Keeps (fun _ => False) w3 W → (convert 22 9 (.slice A1 Nb ca)).run Tryd.prog W = .ok (.string (strOfNums (expF key info Nb))) W) := Lib.hid fun W hk => convert_rd W Tryd.underlying22 Tryd.underlying5 Tryd.underlying9 ca (hr1.keep hk (no_out _ _))
    have CB : Hid (∀ W, Keeps (fun _ => False) w3 W → (convert 22 9 (.slice A2 Nb cb)).run Tryd.prog W = .ok (.string (strOfNums (expF key info Nb))) W) := Lib.hid fun W hk => convert_rd W Tryd.underlying22 Tryd.underlying5 Tryd.underlying9 cb (hr2.keep hk (no_out _ _))
    obtain ⟨sK, hsK⟩ : ∃ sK, sK = strOfNums (expF key info Nb) := ⟨_, rfl⟩
    rw [← hsK] at CA CB
    have HRA := Lib.hid hrA
    clear hA1 hA2 hr1 hr2 hrB hrA hsK
    refine wp_region_held_drew (S := Keeps (fun _ => False) w3) (by kernel_rfl) ((Keeps.refl _ _).drew) (fun hHeld => ?_)
    refine wpAnyH_take (i := 0) (oi := ⟨some 62, _, _, _, _, _⟩) (v := ?_) rfl (by kernel_rfl) (by kernel_rfl) (by kernel_rfl) (fun _ _ _ h => h) (Or.inl ⟨by rfl, ?_⟩) hHeld ?_
    rotate_left
    · intro w' hSw
      go_simp
      first | done | rfl
    try simp only [Act.put, List.setIfInBounds_toArray, List.set_cons_zero, List.set_cons_succ]
    refine wpAnyH_take (i := 1) (oi := ⟨some 63, _, _, _, _, _⟩) (v := ?_) rfl (by kernel_rfl) (by kernel_rfl) (by kernel_rfl) (fun _ _ _ h => h) (Or.inl ⟨by rfl, ?_⟩) hHeld ?_
    rotate_left
    · intro w' hSw
      go_simp
      first | done | rfl
    try simp only [Act.put, List.setIfInBounds_toArray, List.set_cons_zero, List.set_cons_succ]
    refine wpAnyH_take (i := 2) (oi := ⟨some 64, _, _, _, _, _⟩) (v := ?_) rfl (by kernel_rfl) (by kernel_rfl) (by kernel_rfl) (fun _ _ _ h => h) (Or.inl ⟨by rfl, ?_⟩) hHeld ?_
    rotate_left
    · intro w' hSw
      go_simp
      first | done | rfl
    try simp only [Act.put, List.setIfInBounds_toArray, List.set_cons_zero, List.set_cons_succ]
    refine wpAnyH_take (i := 3) (oi := ⟨some 65, _, _, _, _, _⟩) (v := ?_) rfl (by kernel_rfl) (by kernel_rfl) (by kernel_rfl) (fun _ _ _ h => h) (Or.inl ⟨by rfl, ?_⟩) hHeld ?_
    rotate_left
    · intro w' hSw
      have cv := CA.out _ hSw
      go_simp
      first | done | rfl
    try simp only [Act.put, List.setIfInBounds_toArray, List.set_cons_zero, List.set_cons_succ]
    refine wpAnyH_take (i := 4) (oi := ⟨some 66, _, _, _, _, _⟩) (v := ?_) rfl (by kernel_rfl) (by kernel_rfl) (by kernel_rfl) (fun _ _ _ h => h) (Or.inl ⟨by rfl, ?_⟩) hHeld ?_
    rotate_left
    · intro w' hSw
      go_simp
      first | done | rfl
    try simp only [Act.put, List.setIfInBounds_toArray, List.set_cons_zero, List.set_cons_succ]
    refine wpAnyH_take (i := 5) (oi := ⟨some 67, _, _, _, _, _⟩) (v := ?_) rfl (by kernel_rfl) (by kernel_rfl) (by kernel_rfl) (fun _ _ _ h => h) (Or.inl ⟨by rfl, ?_⟩) hHeld ?_
    rotate_left
    · intro w' hSw
      go_simp
      first | done | rfl
    try simp only [Act.put, List.setIfInBounds_toArray, List.set_cons_zero, List.set_cons_succ]
    refine wpAnyH_take (i := 6) (oi := ⟨some 68, _, _, _, _, _⟩) (v := ?_) rfl (by kernel_rfl) (by kernel_rfl) (by kernel_rfl) (fun _ _ _ h => h) (Or.inl ⟨by rfl, ?_⟩) hHeld ?_
    rotate_left
    · intro w' hSw
      go_simp
      first | done | rfl
    try simp only [Act.put, List.setIfInBounds_toArray, List.set_cons_zero, List.set_cons_succ]
    refine wpAnyH_take (i := 7) (oi := ⟨some 69, _, _, _, _, _⟩) (v := ?_) rfl (by kernel_rfl) (by kernel_rfl) (by kernel_rfl) (fun _ _ _ h => h) (Or.inl ⟨by rfl, ?_⟩) hHeld ?_
    rotate_left
    · intro w' hSw
      have cv := CB.out _ hSw
      go_simp
      first | done | rfl
    try simp only [Act.put, List.setIfInBounds_toArray, List.set_cons_zero, List.set_cons_succ]
    refine wpAnyH_take (i := 8) (oi := ⟨some 70, _, _, _, _, _⟩) (v := ?_) rfl (by kernel_rfl) (by kernel_rfl) (by kernel_rfl) (fun _ _ _ h => h) (Or.inl ⟨by rfl, ?_⟩) hHeld ?_
    rotate_left
    · intro w' hSw
      go_simp
      first | done | rfl
    try simp only [Act.put, List.setIfInBounds_toArray, List.set_cons_zero, List.set_cons_succ]
    refine wpAnyH_done (by kernel_rfl) ?_ _
    have HKW3 : Hid (Keeps (fun _ => False) w w3) := Lib.hid (HKA.out.trans HK03.out (fun _ _ h => h))
    clear a0 b0 c0 d0 hc1 hc2
    go_wp2
    go_loopw [10] (fun i wr => ∃ t : Nat, i = .int .i64 ((32 * t : Nat) : Int) ∧ 32 * t ≤ Na ∧ Keeps (fun _ => False) w3 wr) (fun i _ => Na + 32 - (intOf i).toNat)
    case atStart => exact ⟨0, rfl, by omega, (Keeps.refl _ _).drew⟩
    case round =>
      obtain ⟨t, rfl, ht, hkr⟩ := hrel
      have HKR := Lib.hid hkr
      clear hkr
      obtain ⟨I, hI⟩ : ∃ I, I = 32 * t := ⟨_, rfl⟩
      rw [← hI]
      by_cases hlt : I + 32 ≤ Na
      · have hcond : (I : Int) + 32 ≤ (Na : Int) := by omega
        have hq : (I : Int).tdiv 32 = (t : Int) := by rw [Int.tdiv_eq_ediv_of_nonneg (by omega)]; omega
        have hq2 : (I : Int) / 32 = (t : Int) := by omega
        have ht255 : (t : Int) < 255 := by omega
        have hwi : IntKind.i64.wrap ((I : Int) + 32) = (I : Int) + 32 := IntWalk.i64_in _ (by omega)
        have hw8 : ((t : Int) + 1) % 256 = (t : Int) + 1 := by omega
        have hc3 := cut_lh (P := Tryd.prog) Tryd.underlying22 (by kernel_rfl) Aa Na ca I (I + 32) I ((I : Int) + 32) rfl (by omega) (by omega) (by omega)
        rw [show I + 32 - I = 32 by omega] at hc3
        have hr3 : Rd w3 (cutA Aa ca I) 32 (vb (tF key info (t + 1))) := by
          have h3 := HRA.out.cutLH (l := I) (k := I + 32) (c := ca) (by omega) hlt hcap1
          rw [show I + 32 - I = 32 by omega] at h3
          rw [← expF_at key info t Na (by omega), ← hI]
          simpa [vb, List.map_drop, List.map_take] using h3
        obtain ⟨A3, hA3⟩ : ∃ A3, A3 = cutA Aa ca I := ⟨_, rfl⟩
        rw [← hA3] at hc3 hr3
        have HR3 := Lib.hid hr3
        clear hA3 hr3
        by_cases h0 : t = 0
        · have hpos : ¬ (0 < (I : Int)) := by omega
          have hs := HS3.out wr none 0 0 t (HKW3.out.trans HKR.out (fun _ _ h => h)) (by omega) (by rw [h0]; rfl) (by rw [h0]; exact Rd.nil wr none) (Nat.le_refl _) (by omega)
          have HTL : Hid ((vb (tF key info (t + 1))).length = 32) := Lib.hid (by rw [vb_length, tF_length])
          obtain ⟨TV, hTV⟩ : ∃ TV, TV = vb (tF key info (t + 1)) := ⟨_, rfl⟩
          have HTB : Hid (∀ u ∈ TV, u.oneCell' = true) := Lib.hid (by rw [hTV]; exact vb_one _)
          have HCV : Hid (∀ W A5 c5, Rd W A5 32 TV → (convert 22 9 (.slice A5 32 c5)).run Tryd.prog W = .ok (.string (strOfNums (tF key info (t + 1)))) W) := Lib.hid fun W A5 c5 h => by
            rw [hTV] at h
            exact convert_rd W Tryd.underlying22 Tryd.underlying5 Tryd.underlying9 c5 h
          obtain ⟨sT, hsT⟩ : ∃ sT, sT = strOfNums (tF key info (t + 1)) := ⟨_, rfl⟩
          rw [← hTV] at hs HTL HR3
          rw [← hsT] at HCV
          have HS := Lib.hid hs
          have HI := Lib.hid hI
          clear hs hTV hsT h0 hI
          go_wp2_with (first
            | (go_at_call 19; refine HS.out.mono ?_; rintro e w4 ⟨rfl, hk4⟩; have HK4 := Lib.hid hk4; have HZ4 := Lib.hid (Blk.new w4 41 (List.replicate 32 (Value.int .u8 0))); clear hk4)
            | ((with_reducible show wpList _ _ _ (⟨none, Op.store 41 _ _, _, _, _, _⟩ :: _) _ _); refine wpList_store_whole rfl 41 _ _ rfl TV rfl rfl HZ4.out (by rw [HTL.out]; simp) (by rw [HTL.out]; exact info32) HTB.out ?_; have hb5 := HZ4.out.setRow TV; have hk5 := (HK4.out.alloc (.cells (List.replicate 32 (Value.int .u8 0)).toArray 41)).setRow (.inr HK4.out.size) TV.toArray; refine gen_world (fun W => Blk W w4.heap.size 41 TV ∧ Keeps (fun _ => False) wr W) ⟨hb5, hk5⟩ ?_; clear hb5 hk5; rintro w5 ⟨hb5, hk5⟩; have HB5 := Lib.hid hb5; have HK5 := Lib.hid hk5; clear hb5 hk5))
          have CD : Hid (∀ W, Keeps (fun _ => False) w5 W → (convert 22 9 (.slice (some ⟨w4.heap.size, 0, none⟩) 32 32)).run Tryd.prog W = .ok (.string sT) W) := Lib.hid fun W hk => HCV.out W _ 32 ((Rd.of_blk HB5.out HTL.out).keep hk (no_out _ _))
          have CC : Hid (∀ W, Keeps (fun _ => False) w5 W → (convert 22 9 (.slice A3 32 (ca - I))).run Tryd.prog W = .ok (.string sT) W) := Lib.hid fun W hk => HCV.out W _ _ (HR3.out.keep ((HKR.out.trans HK5.out (fun _ _ h => h)).trans hk (fun _ _ h => h)) (no_out _ _))
          refine wp_region_held_drew (S := Keeps (fun _ => False) w5) (by kernel_rfl) ((Keeps.refl _ _).drew) (fun hHeld => ?_)
          refine wpAnyH_take (i := 0) (oi := ⟨some 96, _, _, _, _, _⟩) (v := ?_) rfl (by kernel_rfl) (by kernel_rfl) (by kernel_rfl) (fun _ _ _ h => h) (Or.inl ⟨by rfl, ?_⟩) hHeld ?_
          rotate_left
          · intro w' hSw
            go_simp
            first | done | rfl
          try simp only [Act.put, List.setIfInBounds_toArray, List.set_cons_zero, List.set_cons_succ]
          refine wpAnyH_take (i := 1) (oi := ⟨some 97, _, _, _, _, _⟩) (v := ?_) rfl (by kernel_rfl) (by kernel_rfl) (by kernel_rfl) (fun _ _ _ h => h) (Or.inl ⟨by rfl, ?_⟩) hHeld ?_
          rotate_left
          · intro w' hSw
            have cv := CD.out _ hSw
            go_simp
            first | done | rfl
          try simp only [Act.put, List.setIfInBounds_toArray, List.set_cons_zero, List.set_cons_succ]
          refine wpAnyH_take (i := 2) (oi := ⟨some 98, _, _, _, _, _⟩) (v := ?_) rfl (by kernel_rfl) (by kernel_rfl) (by kernel_rfl) (fun _ _ _ h => h) (Or.inl ⟨by rfl, ?_⟩) hHeld ?_
          rotate_left
          · intro w' hSw
            go_simp
            first | done | rfl
          try simp only [Act.put, List.setIfInBounds_toArray, List.set_cons_zero, List.set_cons_succ]
          refine wpAnyH_take (i := 3) (oi := ⟨some 99, _, _, _, _, _⟩) (v := ?_) rfl (by kernel_rfl) (by kernel_rfl) (by kernel_rfl) (fun _ _ _ h => h) (Or.inl ⟨by rfl, ?_⟩) hHeld ?_
          rotate_left
          · intro w' hSw
            go_simp
            first | done | rfl
          try simp only [Act.put, List.setIfInBounds_toArray, List.set_cons_zero, List.set_cons_succ]
          refine wpAnyH_take (i := 4) (oi := ⟨some 100, _, _, _, _, _⟩) (v := ?_) rfl (by kernel_rfl) (by kernel_rfl) (by kernel_rfl) (fun _ _ _ h => h) (Or.inl ⟨by rfl, ?_⟩) hHeld ?_
          rotate_left
          · intro w' hSw
            go_simp
            first | done | rfl
          try simp only [Act.put, List.setIfInBounds_toArray, List.set_cons_zero, List.set_cons_succ]
          refine wpAnyH_take (i := 5) (oi := ⟨some 101, _, _, _, _, _⟩) (v := ?_) rfl (by kernel_rfl) (by kernel_rfl) (by kernel_rfl) (fun _ _ _ h => h) (Or.inl ⟨by rfl, ?_⟩) hHeld ?_
          rotate_left
          · intro w' hSw
            go_simp
            first | done | rfl
          try simp only [Act.put, List.setIfInBounds_toArray, List.set_cons_zero, List.set_cons_succ]
          refine wpAnyH_take (i := 6) (oi := ⟨some 102, _, _, _, _, _⟩) (v := ?_) rfl (by kernel_rfl) (by kernel_rfl) (by kernel_rfl) (fun _ _ _ h => h) (Or.inl ⟨by rfl, ?_⟩) hHeld ?_
          rotate_left
          · intro w' hSw
            go_simp
            first | done | rfl
          try simp only [Act.put, List.setIfInBounds_toArray, List.set_cons_zero, List.set_cons_succ]
          refine wpAnyH_take (i := 7) (oi := ⟨some 103, _, _, _, _, _⟩) (v := ?_) rfl (by kernel_rfl) (by kernel_rfl) (by kernel_rfl) (fun _ _ _ h => h) (Or.inl ⟨by rfl, ?_⟩) hHeld ?_
          rotate_left
          · intro w' hSw
            have cv := CC.out _ hSw
            go_simp
            first | done | rfl
          try simp only [Act.put, List.setIfInBounds_toArray, List.set_cons_zero, List.set_cons_succ]
          refine wpAnyH_take (i := 8) (oi := ⟨some 104, _, _, _, _, _⟩) (v := ?_) rfl (by kernel_rfl) (by kernel_rfl) (by kernel_rfl) (fun _ _ _ h => h) (Or.inl ⟨by rfl, ?_⟩) hHeld ?_
          rotate_left
          · intro w' hSw
            go_simp
            first | done | rfl
          try simp only [Act.put, List.setIfInBounds_toArray, List.set_cons_zero, List.set_cons_succ]
          refine wpAnyH_done (by kernel_rfl) ?_ _
          go_wp2
          have hI := HI.out
          go_roundw
          case rel => exact ⟨t + 1, congrArg (Value.int .i64) (by omega), by omega, (HKR.out.trans HK5.out (fun _ _ h => h)).drew⟩
          case measure => simp [intOf]; omega
        · have hpos : 0 < (I : Int) := by omega
          have hc4 := cut_lhm (P := Tryd.prog) Tryd.underlying22 (by kernel_rfl) Aa Na ca (I - 32) I ((I : Int) - 32) I I (by omega) rfl rfl (by omega) (by omega)
          rw [show I - (I - 32) = 32 by omega] at hc4
          have hr4 : Rd wr (cutA Aa I (I - 32)) 32 (vb (tF key info t)) := by
            have h3 := (HRA.out.take (k := I) (by omega)).cutA (l := I - 32) (c := I) (by omega) (Nat.le_refl _)
            rw [show I - (I - 32) = 32 by omega] at h3
            have h4 := expF_at key info (t - 1) Na (by omega)
            rw [show t - 1 + 1 = t by omega, show 32 * (t - 1) = I - 32 by omega] at h4
            rw [← h4]
            refine Rd.keep ?_ HKR.out (no_out _ _)
            have h5 : ((expF key info Na).take I).drop (I - 32) = ((expF key info Na).drop (I - 32)).take 32 := by
              rw [List.drop_take, show I - (I - 32) = 32 by omega]
            rw [← h5]
            simpa [vb, List.map_drop, List.map_take] using h3
          have hs := HS3.out wr (cutA Aa I (I - 32)) 32 32 t (HKW3.out.trans HKR.out (fun _ _ h => h)) (by omega) (by rw [show t = t - 1 + 1 by omega]; exact tF_length _ _ _) hr4 (Nat.le_refl _) (Nat.le_refl _)
          obtain ⟨A4, hA4⟩ : ∃ A4, A4 = cutA Aa I (I - 32) := ⟨_, rfl⟩
          rw [← hA4] at hc4 hs
          clear hA4 hr4
          have HTL : Hid ((vb (tF key info (t + 1))).length = 32) := Lib.hid (by rw [vb_length, tF_length])
          obtain ⟨TV, hTV⟩ : ∃ TV, TV = vb (tF key info (t + 1)) := ⟨_, rfl⟩
          have HTB : Hid (∀ u ∈ TV, u.oneCell' = true) := Lib.hid (by rw [hTV]; exact vb_one _)
          have HCV : Hid (∀ W A5 c5, Rd W A5 32 TV → (convert 22 9 (.slice A5 32 c5)).run Tryd.prog W = .ok (.string (strOfNums (tF key info (t + 1)))) W) := Lib.hid fun W A5 c5 h => by
            rw [hTV] at h
            exact convert_rd W Tryd.underlying22 Tryd.underlying5 Tryd.underlying9 c5 h
          obtain ⟨sT, hsT⟩ : ∃ sT, sT = strOfNums (tF key info (t + 1)) := ⟨_, rfl⟩
          rw [← hTV] at hs HTL HR3
          rw [← hsT] at HCV
          have HS := Lib.hid hs
          have HI := Lib.hid hI
          clear hs hTV hsT h0 hI
          go_wp2_with (first
            | (go_at_call 19; refine HS.out.mono ?_; rintro e w4 ⟨rfl, hk4⟩; have HK4 := Lib.hid hk4; have HZ4 := Lib.hid (Blk.new w4 41 (List.replicate 32 (Value.int .u8 0))); clear hk4)
            | ((with_reducible show wpList _ _ _ (⟨none, Op.store 41 _ _, _, _, _, _⟩ :: _) _ _); refine wpList_store_whole rfl 41 _ _ rfl TV rfl rfl HZ4.out (by rw [HTL.out]; simp) (by rw [HTL.out]; exact info32) HTB.out ?_; have hb5 := HZ4.out.setRow TV; have hk5 := (HK4.out.alloc (.cells (List.replicate 32 (Value.int .u8 0)).toArray 41)).setRow (.inr HK4.out.size) TV.toArray; refine gen_world (fun W => Blk W w4.heap.size 41 TV ∧ Keeps (fun _ => False) wr W) ⟨hb5, hk5⟩ ?_; clear hb5 hk5; rintro w5 ⟨hb5, hk5⟩; have HB5 := Lib.hid hb5; have HK5 := Lib.hid hk5; clear hb5 hk5))
          have CD : Hid (∀ W, Keeps (fun _ => False) w5 W → (convert 22 9 (.slice (some ⟨w4.heap.size, 0, none⟩) 32 32)).run Tryd.prog W = .ok (.string sT) W) := Lib.hid fun W hk => HCV.out W _ 32 ((Rd.of_blk HB5.out HTL.out).keep hk (no_out _ _))
          have CC : Hid (∀ W, Keeps (fun _ => False) w5 W → (convert 22 9 (.slice A3 32 (ca - I))).run Tryd.prog W = .ok (.string sT) W) := Lib.hid fun W hk => HCV.out W _ _ (HR3.out.keep ((HKR.out.trans HK5.out (fun _ _ h => h)).trans hk (fun _ _ h => h)) (no_out _ _))
          refine wp_region_held_drew (S := Keeps (fun _ => False) w5) (by kernel_rfl) ((Keeps.refl _ _).drew) (fun hHeld => ?_)
          refine wpAnyH_take (i := 0) (oi := ⟨some 96, _, _, _, _, _⟩) (v := ?_) rfl (by kernel_rfl) (by kernel_rfl) (by kernel_rfl) (fun _ _ _ h => h) (Or.inl ⟨by rfl, ?_⟩) hHeld ?_
          rotate_left
          · intro w' hSw
            go_simp
            first | done | rfl
          try simp only [Act.put, List.setIfInBounds_toArray, List.set_cons_zero, List.set_cons_succ]
          refine wpAnyH_take (i := 1) (oi := ⟨some 97, _, _, _, _, _⟩) (v := ?_) rfl (by kernel_rfl) (by kernel_rfl) (by kernel_rfl) (fun _ _ _ h => h) (Or.inl ⟨by rfl, ?_⟩) hHeld ?_
          rotate_left
          · intro w' hSw
            have cv := CD.out _ hSw
            go_simp
            first | done | rfl
          try simp only [Act.put, List.setIfInBounds_toArray, List.set_cons_zero, List.set_cons_succ]
          refine wpAnyH_take (i := 2) (oi := ⟨some 98, _, _, _, _, _⟩) (v := ?_) rfl (by kernel_rfl) (by kernel_rfl) (by kernel_rfl) (fun _ _ _ h => h) (Or.inl ⟨by rfl, ?_⟩) hHeld ?_
          rotate_left
          · intro w' hSw
            go_simp
            first | done | rfl
          try simp only [Act.put, List.setIfInBounds_toArray, List.set_cons_zero, List.set_cons_succ]
          refine wpAnyH_take (i := 3) (oi := ⟨some 99, _, _, _, _, _⟩) (v := ?_) rfl (by kernel_rfl) (by kernel_rfl) (by kernel_rfl) (fun _ _ _ h => h) (Or.inl ⟨by rfl, ?_⟩) hHeld ?_
          rotate_left
          · intro w' hSw
            go_simp
            first | done | rfl
          try simp only [Act.put, List.setIfInBounds_toArray, List.set_cons_zero, List.set_cons_succ]
          refine wpAnyH_take (i := 4) (oi := ⟨some 100, _, _, _, _, _⟩) (v := ?_) rfl (by kernel_rfl) (by kernel_rfl) (by kernel_rfl) (fun _ _ _ h => h) (Or.inl ⟨by rfl, ?_⟩) hHeld ?_
          rotate_left
          · intro w' hSw
            go_simp
            first | done | rfl
          try simp only [Act.put, List.setIfInBounds_toArray, List.set_cons_zero, List.set_cons_succ]
          refine wpAnyH_take (i := 5) (oi := ⟨some 101, _, _, _, _, _⟩) (v := ?_) rfl (by kernel_rfl) (by kernel_rfl) (by kernel_rfl) (fun _ _ _ h => h) (Or.inl ⟨by rfl, ?_⟩) hHeld ?_
          rotate_left
          · intro w' hSw
            go_simp
            first | done | rfl
          try simp only [Act.put, List.setIfInBounds_toArray, List.set_cons_zero, List.set_cons_succ]
          refine wpAnyH_take (i := 6) (oi := ⟨some 102, _, _, _, _, _⟩) (v := ?_) rfl (by kernel_rfl) (by kernel_rfl) (by kernel_rfl) (fun _ _ _ h => h) (Or.inl ⟨by rfl, ?_⟩) hHeld ?_
          rotate_left
          · intro w' hSw
            go_simp
            first | done | rfl
          try simp only [Act.put, List.setIfInBounds_toArray, List.set_cons_zero, List.set_cons_succ]
          refine wpAnyH_take (i := 7) (oi := ⟨some 103, _, _, _, _, _⟩) (v := ?_) rfl (by kernel_rfl) (by kernel_rfl) (by kernel_rfl) (fun _ _ _ h => h) (Or.inl ⟨by rfl, ?_⟩) hHeld ?_
          rotate_left
          · intro w' hSw
            have cv := CC.out _ hSw
            go_simp
            first | done | rfl
          try simp only [Act.put, List.setIfInBounds_toArray, List.set_cons_zero, List.set_cons_succ]
          refine wpAnyH_take (i := 8) (oi := ⟨some 104, _, _, _, _, _⟩) (v := ?_) rfl (by kernel_rfl) (by kernel_rfl) (by kernel_rfl) (fun _ _ _ h => h) (Or.inl ⟨by rfl, ?_⟩) hHeld ?_
          rotate_left
          · intro w' hSw
            go_simp
            first | done | rfl
          try simp only [Act.put, List.setIfInBounds_toArray, List.set_cons_zero, List.set_cons_succ]
          refine wpAnyH_done (by kernel_rfl) ?_ _
          go_wp2
          have hI := HI.out
          go_roundw
          case rel => exact ⟨t + 1, congrArg (Value.int .i64) (by omega), by omega, (HKR.out.trans HK5.out (fun _ _ h => h)).drew⟩
          case measure => simp [intOf]; omega
      · have hcond : ¬ ((I : Int) + 32 ≤ (Na : Int)) := by omega
        have hI8 : (I : Int) ≤ 8160 := by omega
        have hwi : IntKind.i64.wrap ((I : Int) + 32) = (I : Int) + 32 := IntWalk.i64_in _ (by omega)
        clear hI hlt ht hNa hNb hcap1 hcap2 hm hm' hc hc'
        go_wp2_with (go_at_call 16; refine (HWK.out _ (HKW3.out.trans HKR.out (fun _ _ h => h))).mono ?_; rintro e w9 ⟨rfl, hk9⟩; have HK9 := Lib.hid hk9; clear hk9)
        go_ret
        exact ⟨rfl, (HKW3.out.trans HKR.out (fun _ _ h => h)).trans HK9.out (fun _ _ h => h)⟩
  · have hcap1 : Na ≤ ca := HMA.out.cap
    have hcap2 : Nb ≤ cb := HM3.out.cap
    have hc1 := cut_h (P := Tryd.prog) Tryd.underlying22 (by kernel_rfl) Aa Na ca Na Na rfl (by omega)
    have hc2 := cut_h (P := Tryd.prog) Tryd.underlying22 (by kernel_rfl) Ab Nb cb Na Na rfl (by omega)
    have hrA : Rd w3 Aa Na (vb (expF key info Na)) := Rd.of_own HMA.out.1
    have hrB : Rd w3 Ab Nb (vb (expF key info Nb)) := Rd.of_own HM3.out.1
    have hr1 : Rd w3 (cutA Aa ca 0) Na (vb (expF key info Na)) := by
      have h3 := (hrA.cutA (l := 0) (c := ca) (by omega) hcap1).take (k := Na) (by omega)
      rw [← expF_pre key info (K := Na) (N := Na) (by omega)]
      simpa [vb, List.map_take] using h3
    have hr2 : Rd w3 (cutA Ab cb 0) Na (vb (expF key info Na)) := by
      have h3 := (hrB.cutA (l := 0) (c := cb) (by omega) hcap2).take (k := Na) (by omega)
      rw [← expF_pre key info (K := Na) (N := Nb) (by omega)]
      simpa [vb, List.map_take] using h3
    obtain ⟨A1, hA1⟩ : ∃ A1, A1 = cutA Aa ca 0 := ⟨_, rfl⟩
    obtain ⟨A2, hA2⟩ : ∃ A2, A2 = cutA Ab cb 0 := ⟨_, rfl⟩
    rw [← hA1] at hc1 hr1
    rw [← hA2] at hc2 hr2
    have CA : Hid (∀ W, Keeps (fun _ => False) w3 W → (convert 22 9 (.slice A1 Na ca)).run Tryd.prog W = .ok (.string (strOfNums (expF key info Na))) W) := Lib.hid fun W hk => convert_rd W Tryd.underlying22 Tryd.underlying5 Tryd.underlying9 ca (hr1.keep hk (no_out _ _))
    have CB : Hid (∀ W, Keeps (fun _ => False) w3 W → (convert 22 9 (.slice A2 Na cb)).run Tryd.prog W = .ok (.string (strOfNums (expF key info Na))) W) := Lib.hid fun W hk => convert_rd W Tryd.underlying22 Tryd.underlying5 Tryd.underlying9 cb (hr2.keep hk (no_out _ _))
    obtain ⟨sK, hsK⟩ : ∃ sK, sK = strOfNums (expF key info Na) := ⟨_, rfl⟩
    rw [← hsK] at CA CB
    have HRA := Lib.hid hrA
    clear hA1 hA2 hr1 hr2 hrB hrA hsK
    refine wp_region_held_drew (S := Keeps (fun _ => False) w3) (by kernel_rfl) ((Keeps.refl _ _).drew) (fun hHeld => ?_)
    refine wpAnyH_take (i := 0) (oi := ⟨some 62, _, _, _, _, _⟩) (v := ?_) rfl (by kernel_rfl) (by kernel_rfl) (by kernel_rfl) (fun _ _ _ h => h) (Or.inl ⟨by rfl, ?_⟩) hHeld ?_
    rotate_left
    · intro w' hSw
      go_simp
      first | done | rfl
    try simp only [Act.put, List.setIfInBounds_toArray, List.set_cons_zero, List.set_cons_succ]
    refine wpAnyH_take (i := 1) (oi := ⟨some 63, _, _, _, _, _⟩) (v := ?_) rfl (by kernel_rfl) (by kernel_rfl) (by kernel_rfl) (fun _ _ _ h => h) (Or.inl ⟨by rfl, ?_⟩) hHeld ?_
    rotate_left
    · intro w' hSw
      go_simp
      first | done | rfl
    try simp only [Act.put, List.setIfInBounds_toArray, List.set_cons_zero, List.set_cons_succ]
    refine wpAnyH_take (i := 2) (oi := ⟨some 64, _, _, _, _, _⟩) (v := ?_) rfl (by kernel_rfl) (by kernel_rfl) (by kernel_rfl) (fun _ _ _ h => h) (Or.inl ⟨by rfl, ?_⟩) hHeld ?_
    rotate_left
    · intro w' hSw
      go_simp
      first | done | rfl
    try simp only [Act.put, List.setIfInBounds_toArray, List.set_cons_zero, List.set_cons_succ]
    refine wpAnyH_take (i := 3) (oi := ⟨some 65, _, _, _, _, _⟩) (v := ?_) rfl (by kernel_rfl) (by kernel_rfl) (by kernel_rfl) (fun _ _ _ h => h) (Or.inl ⟨by rfl, ?_⟩) hHeld ?_
    rotate_left
    · intro w' hSw
      have cv := CA.out _ hSw
      go_simp
      first | done | rfl
    try simp only [Act.put, List.setIfInBounds_toArray, List.set_cons_zero, List.set_cons_succ]
    refine wpAnyH_take (i := 4) (oi := ⟨some 66, _, _, _, _, _⟩) (v := ?_) rfl (by kernel_rfl) (by kernel_rfl) (by kernel_rfl) (fun _ _ _ h => h) (Or.inl ⟨by rfl, ?_⟩) hHeld ?_
    rotate_left
    · intro w' hSw
      go_simp
      first | done | rfl
    try simp only [Act.put, List.setIfInBounds_toArray, List.set_cons_zero, List.set_cons_succ]
    refine wpAnyH_take (i := 5) (oi := ⟨some 67, _, _, _, _, _⟩) (v := ?_) rfl (by kernel_rfl) (by kernel_rfl) (by kernel_rfl) (fun _ _ _ h => h) (Or.inl ⟨by rfl, ?_⟩) hHeld ?_
    rotate_left
    · intro w' hSw
      go_simp
      first | done | rfl
    try simp only [Act.put, List.setIfInBounds_toArray, List.set_cons_zero, List.set_cons_succ]
    refine wpAnyH_take (i := 6) (oi := ⟨some 68, _, _, _, _, _⟩) (v := ?_) rfl (by kernel_rfl) (by kernel_rfl) (by kernel_rfl) (fun _ _ _ h => h) (Or.inl ⟨by rfl, ?_⟩) hHeld ?_
    rotate_left
    · intro w' hSw
      go_simp
      first | done | rfl
    try simp only [Act.put, List.setIfInBounds_toArray, List.set_cons_zero, List.set_cons_succ]
    refine wpAnyH_take (i := 7) (oi := ⟨some 69, _, _, _, _, _⟩) (v := ?_) rfl (by kernel_rfl) (by kernel_rfl) (by kernel_rfl) (fun _ _ _ h => h) (Or.inl ⟨by rfl, ?_⟩) hHeld ?_
    rotate_left
    · intro w' hSw
      have cv := CB.out _ hSw
      go_simp
      first | done | rfl
    try simp only [Act.put, List.setIfInBounds_toArray, List.set_cons_zero, List.set_cons_succ]
    refine wpAnyH_take (i := 8) (oi := ⟨some 70, _, _, _, _, _⟩) (v := ?_) rfl (by kernel_rfl) (by kernel_rfl) (by kernel_rfl) (fun _ _ _ h => h) (Or.inl ⟨by rfl, ?_⟩) hHeld ?_
    rotate_left
    · intro w' hSw
      go_simp
      first | done | rfl
    try simp only [Act.put, List.setIfInBounds_toArray, List.set_cons_zero, List.set_cons_succ]
    refine wpAnyH_done (by kernel_rfl) ?_ _
    have HKW3 : Hid (Keeps (fun _ => False) w w3) := Lib.hid (HKA.out.trans HK03.out (fun _ _ h => h))
    clear a0 b0 c0 d0 hc1 hc2
    go_wp2
    go_loopw [10] (fun i wr => ∃ t : Nat, i = .int .i64 ((32 * t : Nat) : Int) ∧ 32 * t ≤ Na ∧ Keeps (fun _ => False) w3 wr) (fun i _ => Na + 32 - (intOf i).toNat)
    case atStart => exact ⟨0, rfl, by omega, (Keeps.refl _ _).drew⟩
    case round =>
      obtain ⟨t, rfl, ht, hkr⟩ := hrel
      have HKR := Lib.hid hkr
      clear hkr
      obtain ⟨I, hI⟩ : ∃ I, I = 32 * t := ⟨_, rfl⟩
      rw [← hI]
      by_cases hlt : I + 32 ≤ Na
      · have hcond : (I : Int) + 32 ≤ (Na : Int) := by omega
        have hq : (I : Int).tdiv 32 = (t : Int) := by rw [Int.tdiv_eq_ediv_of_nonneg (by omega)]; omega
        have hq2 : (I : Int) / 32 = (t : Int) := by omega
        have ht255 : (t : Int) < 255 := by omega
        have hwi : IntKind.i64.wrap ((I : Int) + 32) = (I : Int) + 32 := IntWalk.i64_in _ (by omega)
        have hw8 : ((t : Int) + 1) % 256 = (t : Int) + 1 := by omega
        have hc3 := cut_lh (P := Tryd.prog) Tryd.underlying22 (by kernel_rfl) Aa Na ca I (I + 32) I ((I : Int) + 32) rfl (by omega) (by omega) (by omega)
        rw [show I + 32 - I = 32 by omega] at hc3
        have hr3 : Rd w3 (cutA Aa ca I) 32 (vb (tF key info (t + 1))) := by
          have h3 := HRA.out.cutLH (l := I) (k := I + 32) (c := ca) (by omega) hlt hcap1
          rw [show I + 32 - I = 32 by omega] at h3
          rw [← expF_at key info t Na (by omega), ← hI]
          simpa [vb, List.map_drop, List.map_take] using h3
        obtain ⟨A3, hA3⟩ : ∃ A3, A3 = cutA Aa ca I := ⟨_, rfl⟩
        rw [← hA3] at hc3 hr3
        have HR3 := Lib.hid hr3
        clear hA3 hr3
        by_cases h0 : t = 0
        · have hpos : ¬ (0 < (I : Int)) := by omega
          have hs := HS3.out wr none 0 0 t (HKW3.out.trans HKR.out (fun _ _ h => h)) (by omega) (by rw [h0]; rfl) (by rw [h0]; exact Rd.nil wr none) (Nat.le_refl _) (by omega)
          have HTL : Hid ((vb (tF key info (t + 1))).length = 32) := Lib.hid (by rw [vb_length, tF_length])
          obtain ⟨TV, hTV⟩ : ∃ TV, TV = vb (tF key info (t + 1)) := ⟨_, rfl⟩
          have HTB : Hid (∀ u ∈ TV, u.oneCell' = true) := Lib.hid (by rw [hTV]; exact vb_one _)
          have HCV : Hid (∀ W A5 c5, Rd W A5 32 TV → (convert 22 9 (.slice A5 32 c5)).run Tryd.prog W = .ok (.string (strOfNums (tF key info (t + 1)))) W) := Lib.hid fun W A5 c5 h => by
            rw [hTV] at h
            exact convert_rd W Tryd.underlying22 Tryd.underlying5 Tryd.underlying9 c5 h
          obtain ⟨sT, hsT⟩ : ∃ sT, sT = strOfNums (tF key info (t + 1)) := ⟨_, rfl⟩
          rw [← hTV] at hs HTL HR3
          rw [← hsT] at HCV
          have HS := Lib.hid hs
          have HI := Lib.hid hI
          clear hs hTV hsT h0 hI
          go_wp2_with (first
            | (go_at_call 19; refine HS.out.mono ?_; rintro e w4 ⟨rfl, hk4⟩; have HK4 := Lib.hid hk4; have HZ4 := Lib.hid (Blk.new w4 41 (List.replicate 32 (Value.int .u8 0))); clear hk4)
            | ((with_reducible show wpList _ _ _ (⟨none, Op.store 41 _ _, _, _, _, _⟩ :: _) _ _); refine wpList_store_whole rfl 41 _ _ rfl TV rfl rfl HZ4.out (by rw [HTL.out]; simp) (by rw [HTL.out]; exact info32) HTB.out ?_; have hb5 := HZ4.out.setRow TV; have hk5 := (HK4.out.alloc (.cells (List.replicate 32 (Value.int .u8 0)).toArray 41)).setRow (.inr HK4.out.size) TV.toArray; refine gen_world (fun W => Blk W w4.heap.size 41 TV ∧ Keeps (fun _ => False) wr W) ⟨hb5, hk5⟩ ?_; clear hb5 hk5; rintro w5 ⟨hb5, hk5⟩; have HB5 := Lib.hid hb5; have HK5 := Lib.hid hk5; clear hb5 hk5))
          have CD : Hid (∀ W, Keeps (fun _ => False) w5 W → (convert 22 9 (.slice (some ⟨w4.heap.size, 0, none⟩) 32 32)).run Tryd.prog W = .ok (.string sT) W) := Lib.hid fun W hk => HCV.out W _ 32 ((Rd.of_blk HB5.out HTL.out).keep hk (no_out _ _))
          have CC : Hid (∀ W, Keeps (fun _ => False) w5 W → (convert 22 9 (.slice A3 32 (ca - I))).run Tryd.prog W = .ok (.string sT) W) := Lib.hid fun W hk => HCV.out W _ _ (HR3.out.keep ((HKR.out.trans HK5.out (fun _ _ h => h)).trans hk (fun _ _ h => h)) (no_out _ _))
          refine wp_region_held_drew (S := Keeps (fun _ => False) w5) (by kernel_rfl) ((Keeps.refl _ _).drew) (fun hHeld => ?_)
          refine wpAnyH_take (i := 0) (oi := ⟨some 96, _, _, _, _, _⟩) (v := ?_) rfl (by kernel_rfl) (by kernel_rfl) (by kernel_rfl) (fun _ _ _ h => h) (Or.inl ⟨by rfl, ?_⟩) hHeld ?_
          rotate_left
          · intro w' hSw
            go_simp
            first | done | rfl
          try simp only [Act.put, List.setIfInBounds_toArray, List.set_cons_zero, List.set_cons_succ]
          refine wpAnyH_take (i := 1) (oi := ⟨some 97, _, _, _, _, _⟩) (v := ?_) rfl (by kernel_rfl) (by kernel_rfl) (by kernel_rfl) (fun _ _ _ h => h) (Or.inl ⟨by rfl, ?_⟩) hHeld ?_
          rotate_left
          · intro w' hSw
            have cv := CD.out _ hSw
            go_simp
            first | done | rfl
          try simp only [Act.put, List.setIfInBounds_toArray, List.set_cons_zero, List.set_cons_succ]
          refine wpAnyH_take (i := 2) (oi := ⟨some 98, _, _, _, _, _⟩) (v := ?_) rfl (by kernel_rfl) (by kernel_rfl) (by kernel_rfl) (fun _ _ _ h => h) (Or.inl ⟨by rfl, ?_⟩) hHeld ?_
          rotate_left
          · intro w' hSw
            go_simp
            first | done | rfl
          try simp only [Act.put, List.setIfInBounds_toArray, List.set_cons_zero, List.set_cons_succ]
          refine wpAnyH_take (i := 3) (oi := ⟨some 99, _, _, _, _, _⟩) (v := ?_) rfl (by kernel_rfl) (by kernel_rfl) (by kernel_rfl) (fun _ _ _ h => h) (Or.inl ⟨by rfl, ?_⟩) hHeld ?_
          rotate_left
          · intro w' hSw
            go_simp
            first | done | rfl
          try simp only [Act.put, List.setIfInBounds_toArray, List.set_cons_zero, List.set_cons_succ]
          refine wpAnyH_take (i := 4) (oi := ⟨some 100, _, _, _, _, _⟩) (v := ?_) rfl (by kernel_rfl) (by kernel_rfl) (by kernel_rfl) (fun _ _ _ h => h) (Or.inl ⟨by rfl, ?_⟩) hHeld ?_
          rotate_left
          · intro w' hSw
            go_simp
            first | done | rfl
          try simp only [Act.put, List.setIfInBounds_toArray, List.set_cons_zero, List.set_cons_succ]
          refine wpAnyH_take (i := 5) (oi := ⟨some 101, _, _, _, _, _⟩) (v := ?_) rfl (by kernel_rfl) (by kernel_rfl) (by kernel_rfl) (fun _ _ _ h => h) (Or.inl ⟨by rfl, ?_⟩) hHeld ?_
          rotate_left
          · intro w' hSw
            go_simp
            first | done | rfl
          try simp only [Act.put, List.setIfInBounds_toArray, List.set_cons_zero, List.set_cons_succ]
          refine wpAnyH_take (i := 6) (oi := ⟨some 102, _, _, _, _, _⟩) (v := ?_) rfl (by kernel_rfl) (by kernel_rfl) (by kernel_rfl) (fun _ _ _ h => h) (Or.inl ⟨by rfl, ?_⟩) hHeld ?_
          rotate_left
          · intro w' hSw
            go_simp
            first | done | rfl
          try simp only [Act.put, List.setIfInBounds_toArray, List.set_cons_zero, List.set_cons_succ]
          refine wpAnyH_take (i := 7) (oi := ⟨some 103, _, _, _, _, _⟩) (v := ?_) rfl (by kernel_rfl) (by kernel_rfl) (by kernel_rfl) (fun _ _ _ h => h) (Or.inl ⟨by rfl, ?_⟩) hHeld ?_
          rotate_left
          · intro w' hSw
            have cv := CC.out _ hSw
            go_simp
            first | done | rfl
          try simp only [Act.put, List.setIfInBounds_toArray, List.set_cons_zero, List.set_cons_succ]
          refine wpAnyH_take (i := 8) (oi := ⟨some 104, _, _, _, _, _⟩) (v := ?_) rfl (by kernel_rfl) (by kernel_rfl) (by kernel_rfl) (fun _ _ _ h => h) (Or.inl ⟨by rfl, ?_⟩) hHeld ?_
          rotate_left
          · intro w' hSw
            go_simp
            first | done | rfl
          try simp only [Act.put, List.setIfInBounds_toArray, List.set_cons_zero, List.set_cons_succ]
          refine wpAnyH_done (by kernel_rfl) ?_ _
          go_wp2
          have hI := HI.out
          go_roundw
          case rel => exact ⟨t + 1, congrArg (Value.int .i64) (by omega), by omega, (HKR.out.trans HK5.out (fun _ _ h => h)).drew⟩
          case measure => simp [intOf]; omega
        · have hpos : 0 < (I : Int) := by omega
          have hc4 := cut_lhm (P := Tryd.prog) Tryd.underlying22 (by kernel_rfl) Aa Na ca (I - 32) I ((I : Int) - 32) I I (by omega) rfl rfl (by omega) (by omega)
          rw [show I - (I - 32) = 32 by omega] at hc4
          have hr4 : Rd wr (cutA Aa I (I - 32)) 32 (vb (tF key info t)) := by
            have h3 := (HRA.out.take (k := I) (by omega)).cutA (l := I - 32) (c := I) (by omega) (Nat.le_refl _)
            rw [show I - (I - 32) = 32 by omega] at h3
            have h4 := expF_at key info (t - 1) Na (by omega)
            rw [show t - 1 + 1 = t by omega, show 32 * (t - 1) = I - 32 by omega] at h4
            rw [← h4]
            refine Rd.keep ?_ HKR.out (no_out _ _)
            have h5 : ((expF key info Na).take I).drop (I - 32) = ((expF key info Na).drop (I - 32)).take 32 := by
              rw [List.drop_take, show I - (I - 32) = 32 by omega]
            rw [← h5]
            simpa [vb, List.map_drop, List.map_take] using h3
          have hs := HS3.out wr (cutA Aa I (I - 32)) 32 32 t (HKW3.out.trans HKR.out (fun _ _ h => h)) (by omega) (by rw [show t = t - 1 + 1 by omega]; exact tF_length _ _ _) hr4 (Nat.le_refl _) (Nat.le_refl _)
          obtain ⟨A4, hA4⟩ : ∃ A4, A4 = cutA Aa I (I - 32) := ⟨_, rfl⟩
          rw [← hA4] at hc4 hs
          clear hA4 hr4
          have HTL : Hid ((vb (tF key info (t + 1))).length = 32) := Lib.hid (by rw [vb_length, tF_length])
          obtain ⟨TV, hTV⟩ : ∃ TV, TV = vb (tF key info (t + 1)) := ⟨_, rfl⟩
          have HTB : Hid (∀ u ∈ TV, u.oneCell' = true) := Lib.hid (by rw [hTV]; exact vb_one _)
          have HCV : Hid (∀ W A5 c5, Rd W A5 32 TV → (convert 22 9 (.slice A5 32 c5)).run Tryd.prog W = .ok (.string (strOfNums (tF key info (t + 1)))) W) := Lib.hid fun W A5 c5 h => by
            rw [hTV] at h
            exact convert_rd W Tryd.underlying22 Tryd.underlying5 Tryd.underlying9 c5 h
          obtain ⟨sT, hsT⟩ : ∃ sT, sT = strOfNums (tF key info (t + 1)) := ⟨_, rfl⟩
          rw [← hTV] at hs HTL HR3
          rw [← hsT] at HCV
          have HS := Lib.hid hs
          have HI := Lib.hid hI
          clear hs hTV hsT h0 hI
          go_wp2_with (first
            | (go_at_call 19; refine HS.out.mono ?_; rintro e w4 ⟨rfl, hk4⟩; have HK4 := Lib.hid hk4; have HZ4 := Lib.hid (Blk.new w4 41 (List.replicate 32 (Value.int .u8 0))); clear hk4)
            | ((with_reducible show wpList _ _ _ (⟨none, Op.store 41 _ _, _, _, _, _⟩ :: _) _ _); refine wpList_store_whole rfl 41 _ _ rfl TV rfl rfl HZ4.out (by rw [HTL.out]; simp) (by rw [HTL.out]; exact info32) HTB.out ?_; have hb5 := HZ4.out.setRow TV; have hk5 := (HK4.out.alloc (.cells (List.replicate 32 (Value.int .u8 0)).toArray 41)).setRow (.inr HK4.out.size) TV.toArray; refine gen_world (fun W => Blk W w4.heap.size 41 TV ∧ Keeps (fun _ => False) wr W) ⟨hb5, hk5⟩ ?_; clear hb5 hk5; rintro w5 ⟨hb5, hk5⟩; have HB5 := Lib.hid hb5; have HK5 := Lib.hid hk5; clear hb5 hk5))
          have CD : Hid (∀ W, Keeps (fun _ => False) w5 W → (convert 22 9 (.slice (some ⟨w4.heap.size, 0, none⟩) 32 32)).run Tryd.prog W = .ok (.string sT) W) := Lib.hid fun W hk => HCV.out W _ 32 ((Rd.of_blk HB5.out HTL.out).keep hk (no_out _ _))
          have CC : Hid (∀ W, Keeps (fun _ => False) w5 W → (convert 22 9 (.slice A3 32 (ca - I))).run Tryd.prog W = .ok (.string sT) W) := Lib.hid fun W hk => HCV.out W _ _ (HR3.out.keep ((HKR.out.trans HK5.out (fun _ _ h => h)).trans hk (fun _ _ h => h)) (no_out _ _))
          refine wp_region_held_drew (S := Keeps (fun _ => False) w5) (by kernel_rfl) ((Keeps.refl _ _).drew) (fun hHeld => ?_)
          refine wpAnyH_take (i := 0) (oi := ⟨some 96, _, _, _, _, _⟩) (v := ?_) rfl (by kernel_rfl) (by kernel_rfl) (by kernel_rfl) (fun _ _ _ h => h) (Or.inl ⟨by rfl, ?_⟩) hHeld ?_
          rotate_left
          · intro w' hSw
            go_simp
            first | done | rfl
          try simp only [Act.put, List.setIfInBounds_toArray, List.set_cons_zero, List.set_cons_succ]
          refine wpAnyH_take (i := 1) (oi := ⟨some 97, _, _, _, _, _⟩) (v := ?_) rfl (by kernel_rfl) (by kernel_rfl) (by kernel_rfl) (fun _ _ _ h => h) (Or.inl ⟨by rfl, ?_⟩) hHeld ?_
          rotate_left
          · intro w' hSw
            have cv := CD.out _ hSw
            go_simp
            first | done | rfl
          try simp only [Act.put, List.setIfInBounds_toArray, List.set_cons_zero, List.set_cons_succ]
          refine wpAnyH_take (i := 2) (oi := ⟨some 98, _, _, _, _, _⟩) (v := ?_) rfl (by kernel_rfl) (by kernel_rfl) (by kernel_rfl) (fun _ _ _ h => h) (Or.inl ⟨by rfl, ?_⟩) hHeld ?_
          rotate_left
          · intro w' hSw
            go_simp
            first | done | rfl
          try simp only [Act.put, List.setIfInBounds_toArray, List.set_cons_zero, List.set_cons_succ]
          refine wpAnyH_take (i := 3) (oi := ⟨some 99, _, _, _, _, _⟩) (v := ?_) rfl (by kernel_rfl) (by kernel_rfl) (by kernel_rfl) (fun _ _ _ h => h) (Or.inl ⟨by rfl, ?_⟩) hHeld ?_
          rotate_left
          · intro w' hSw
            go_simp
            first | done | rfl
          try simp only [Act.put, List.setIfInBounds_toArray, List.set_cons_zero, List.set_cons_succ]
          refine wpAnyH_take (i := 4) (oi := ⟨some 100, _, _, _, _, _⟩) (v := ?_) rfl (by kernel_rfl) (by kernel_rfl) (by kernel_rfl) (fun _ _ _ h => h) (Or.inl ⟨by rfl, ?_⟩) hHeld ?_
          rotate_left
          · intro w' hSw
            go_simp
            first | done | rfl
          try simp only [Act.put, List.setIfInBounds_toArray, List.set_cons_zero, List.set_cons_succ]
          refine wpAnyH_take (i := 5) (oi := ⟨some 101, _, _, _, _, _⟩) (v := ?_) rfl (by kernel_rfl) (by kernel_rfl) (by kernel_rfl) (fun _ _ _ h => h) (Or.inl ⟨by rfl, ?_⟩) hHeld ?_
          rotate_left
          · intro w' hSw
            go_simp
            first | done | rfl
          try simp only [Act.put, List.setIfInBounds_toArray, List.set_cons_zero, List.set_cons_succ]
          refine wpAnyH_take (i := 6) (oi := ⟨some 102, _, _, _, _, _⟩) (v := ?_) rfl (by kernel_rfl) (by kernel_rfl) (by kernel_rfl) (fun _ _ _ h => h) (Or.inl ⟨by rfl, ?_⟩) hHeld ?_
          rotate_left
          · intro w' hSw
            go_simp
            first | done | rfl
          try simp only [Act.put, List.setIfInBounds_toArray, List.set_cons_zero, List.set_cons_succ]
          refine wpAnyH_take (i := 7) (oi := ⟨some 103, _, _, _, _, _⟩) (v := ?_) rfl (by kernel_rfl) (by kernel_rfl) (by kernel_rfl) (fun _ _ _ h => h) (Or.inl ⟨by rfl, ?_⟩) hHeld ?_
          rotate_left
          · intro w' hSw
            have cv := CC.out _ hSw
            go_simp
            first | done | rfl
          try simp only [Act.put, List.setIfInBounds_toArray, List.set_cons_zero, List.set_cons_succ]
          refine wpAnyH_take (i := 8) (oi := ⟨some 104, _, _, _, _, _⟩) (v := ?_) rfl (by kernel_rfl) (by kernel_rfl) (by kernel_rfl) (fun _ _ _ h => h) (Or.inl ⟨by rfl, ?_⟩) hHeld ?_
          rotate_left
          · intro w' hSw
            go_simp
            first | done | rfl
          try simp only [Act.put, List.setIfInBounds_toArray, List.set_cons_zero, List.set_cons_succ]
          refine wpAnyH_done (by kernel_rfl) ?_ _
          go_wp2
          have hI := HI.out
          go_roundw
          case rel => exact ⟨t + 1, congrArg (Value.int .i64) (by omega), by omega, (HKR.out.trans HK5.out (fun _ _ h => h)).drew⟩
          case measure => simp [intOf]; omega
      · have hcond : ¬ ((I : Int) + 32 ≤ (Na : Int)) := by omega
        have hI8 : (I : Int) ≤ 8160 := by omega
        have hwi : IntKind.i64.wrap ((I : Int) + 32) = (I : Int) + 32 := IntWalk.i64_in _ (by omega)
        clear hI hlt ht hNa hNb hcap1 hcap2 hm hm' hc hc'
        go_wp2_with (go_at_call 16; refine (HWK.out _ (HKW3.out.trans HKR.out (fun _ _ h => h))).mono ?_; rintro e w9 ⟨rfl, hk9⟩; have HK9 := Lib.hid hk9; clear hk9)
        go_ret
        exact ⟨rfl, (HKW3.out.trans HKR.out (fun _ _ h => h)).trans HK9.out (fun _ _ h => h)⟩
end Go.Proofs.YtnlnbgjpbnjjfaaDoor
