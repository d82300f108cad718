/-
  WALK: write of both, where there is room.
-/
import Derived.Test.YtgblndddcbfdiaaDoorLongBW
set_option linter.unusedSimpArgs false
namespace Go.Proofs.YtgblndddcbfdiaaDoor
open Go Go.RowKit Go.Sha Go.Aff
set_option maxHeartbeats 4000000 in
set_option maxRecDepth 100000 in
theorem write_ok (w : World) (hG : Glob w) (p : Nat) (v : Value) (S : Nat → Int) (nb : Nat) (X : List Int) (h : HashAt w p v S nb X) (hfoot : ∀ i, Foot p v i → 2 ≤ i) (gw kw : Nat) (TW : TypeId) (WW : List Value) (hw : Blk w gw TW WW) (hkw : kw + 10 ≤ WW.length) (hgw : ¬ Foot p v gw)
    (Ar : Option Addr) (cr : Nat) (hrow : (WW.drop kw).take 10 = hcells (stN S X (X.length / 64)) ((nb + X.length / 64 : Nat) : Int) (.slice Ar (X.length % 64) cr)) (hAr : Rd w Ar (X.length % 64) (vb (X.drop (64 * (X.length / 64))))) (hAo : Out (Foot p v) Ar (X.length % 64))
    (A : Option Addr) (n c : Nat) (pss : List (List Int)) (hnn : pss.length = n) (hr : RdPartsO (fun i => i = gw ∨ Foot p v i) w A pss) (hn : n ≤ 1048576) (hbig : pss.flatten.length ≤ 140737488355328) (hfit : 64 * nb + X.length + pss.flatten.length < 2305843009213693952) :
    Calls Tryd.prog 37 #[.pointer (some ⟨p, 0, none⟩), .pointer (some ⟨gw, kw, none⟩), .bool true, .slice A n c] w fun e w' => e = .returned (.bool true) ∧
      ∃ v' A' c' r' Y, Y = X ++ pss.flatten ∧ r' = Y.length % 64 ∧ HashAt w' p v' S nb Y ∧ (∀ g, v'.ownBlock = some g → v.ownBlock = some g ∨ w.heap.size ≤ g) ∧ Rd w' A' r' (vb (Y.drop (64 * (Y.length / 64)))) ∧ (∀ ad, 0 < r' → A' = some ad → w.heap.size ≤ ad.block ∧ ¬ Foot p v' ad.block) ∧
        Blk w' gw TW (Go.Aff.splice WW kw (hcells (stN S Y (Y.length / 64)) ((nb + Y.length / 64 : Nat) : Int) (.slice A' r' c'))) ∧ Keeps (fun i => i = gw ∨ Foot p v i) w w' := by
  obtain ⟨FL, hFL⟩ : ∃ FL, FL = pss.flatten := ⟨_, rfl⟩
  obtain ⟨N, hN⟩ : ∃ N, N = FL.length := ⟨_, rfl⟩
  have HCC : Hid (Calls Tryd.prog 28 #[.slice A n c] w fun e w' => ∃ A' c', e = .returned (.slice A' N c') ∧ Mine w w' 5 A' N c' (vb FL)) := Lib.hid (by
    have h := Concat_any w A c pss (hr.sub (fun _ h => h.elim)) (by omega) hbig
    rw [hnn] at h
    exact h.mono (fun e w' h => by rw [hN, hFL]; exact h))
  have HCP : Hid (∀ W, Keeps (fun _ => False) w W → Calls Tryd.prog 33 #[.slice A n c] W fun e w' => ∃ v, e = .returned v ∧ CopRel W pss n v w') := Lib.hid fun W hW => by
    have h := copied_any W A c pss ((hr.sub (fun _ h => h.elim)).keep hW (fun _ h => h)) (by omega)
    rwa [hnn] at h
  have HEACH := Lib.hid hr.each
  have HNN := Lib.hid hnn
  have HR := Lib.hid hr
  have HBW := Lib.hid hw
  have HLW := Lib.hid hkw
  have hlow := h.lt
  have hgl := hw.lt
  have hxb := h.2.2
  obtain ⟨Y, hY⟩ : ∃ Y, Y = X ++ pss.flatten := ⟨_, rfl⟩
  have HWA : Hid (∀ W B d, Keeps (fun _ => False) w W → RdPartsO (Foot p v) W B pss → Calls Tryd.prog 22 #[.pointer (some ⟨p, 0, none⟩), .slice B n d] W fun e w' => e = .returned .nilIface ∧
      ∃ v', HashAt w' p v' S nb Y ∧ Keeps (Foot p v) W w' ∧ (∀ g, v'.ownBlock = some g → v.ownBlock = some g ∨ W.heap.size ≤ g)) := Lib.hid fun W B d hW hB => by
    have h := Write_ok W (hG.keep hW (fun _ h => h.elim)) p v S nb X (h.keep hW (fun _ _ h => h)) hfoot B d pss hB (by omega) hfit
    rw [hnn, ← hY] at h
    exact h
  obtain ⟨HC, hHC⟩ : ∃ HC, HC = hcells (stN S X (X.length / 64)) ((nb + X.length / 64 : Nat) : Int) (.slice Ar (X.length % 64) cr) := ⟨_, rfl⟩
  have hrv : rv S nb X (.slice Ar (X.length % 64) cr) = .agg HC.toArray := by rw [hHC]; rfl
  have HRM : Hid (∀ W, Calls Tryd.prog 53 #[.agg HC.toArray, .int .i64 (N : Int)] W fun e w' => e = .returned (.bool true) ∧ Keeps (fun _ => False) W w') := Lib.hid fun W => by
    have h := room_any W (stN S X (X.length / 64)) (nb + X.length / 64) Ar (X.length % 64) cr (by omega) (by omega) N (by rw [hN, hFL]; exact hbig)
    rw [decide_eq_true (by rw [hN, hFL]; omega), ← hHC] at h
    exact h
  have HROW : Hid (((WW.drop kw).take 10) = HC) := Lib.hid (hrow.trans hHC.symm)
  obtain ⟨ry, hry⟩ : ∃ ry, ry = Y.length % 64 := ⟨_, rfl⟩
  obtain ⟨TY, hTY⟩ : ∃ TY, TY = stN S Y (Y.length / 64) := ⟨_, rfl⟩
  obtain ⟨by_, hby⟩ : ∃ b : Int, b = ((nb + Y.length / 64 : Nat) : Int) := ⟨_, rfl⟩
  obtain ⟨XY, hXY⟩ : ∃ Z, Z = vb (Y.drop (64 * (Y.length / 64))) := ⟨_, rfl⟩
  obtain ⟨H2, hH2⟩ : ∃ H2 : Value → List Value, H2 = fun u => hcells TY by_ u := ⟨_, rfl⟩
  have HH2 := Lib.hid hH2
  have HL2 : Hid (∀ u, (H2 u).length = 10) := Lib.hid fun u => by rw [hH2]; exact hcells_length _ _ _
  have HO1 : Hid (∀ B m d, ∀ x ∈ H2 (.slice B m d), x.oneCell' = true) := Lib.hid fun B m d => by rw [hH2]; exact hcells_one _ _ _ _ _
  have HRW : Hid (∀ W B d, Keeps (Foot p v) w W → Rd W B N (vb FL) → Calls Tryd.prog 49 #[.agg HC.toArray, .slice B N d] W fun e w' => ∃ A5 c5, e = .returned (.agg (H2 (.slice A5 ry c5)).toArray) ∧ Rd w' A5 ry XY ∧ Keeps (fun _ => False) W w' ∧ ∀ ad, A5 = some ad → 0 < ry → W.heap.size ≤ ad.block) := Lib.hid fun W B d hW hB => by
    have hbs : IsBytes FL := by
      rw [hFL]
      intro x hx
      obtain ⟨l, hl, hxl⟩ := List.mem_flatten.1 hx
      exact (hr.each l hl).1 x hxl
    rw [hN] at hB ⊢
    have h := rwrite_any W S nb X Ar cr hxb (hAr.keep hW hAo) B d FL hB hbs (by rw [hFL]; omega)
    rw [hrv] at h
    rw [hFL, ← hY, ← hry, ← hXY] at h
    rw [hFL]
    refine h.mono fun e w' ⟨u, he, ho, hk, hu⟩ => ?_
    obtain ⟨A5, c5, rfl⟩ := own_shape ho
    refine ⟨A5, c5, ?_, Rd.of_own ho, hk, fun ad had h0 => ?_⟩
    · rw [he, hH2, hTY, hby]; rfl
    · obtain ⟨g5, cap5, e5, _⟩ := ho.form h0
      injection e5 with e5
      rw [had] at e5
      injection e5 with e5
      subst had e5
      exact hu _ rfl
  have HYY := Lib.hid hY
  have HRY := Lib.hid hry
  have HTY := Lib.hid hTY
  have HBY := Lib.hid hby
  have HXY := Lib.hid hXY
  have HLO := Lib.hid hlow
  have HGW := Lib.hid hgw
  have HGL := Lib.hid hgl
  clear hFL hN hbig hr hnn h hw hkw hrow hHC hfit hG hfoot hAr hAo hlow hgw hgl hxb hY hrv hry hTY hby hXY hH2
  go_enter Tryd.func37, Tryd.ntmps37
  go_upto_region 3 with (first
    | (go_at_call 28; refine HCC.out.mono ?_; rintro e w1 ⟨A1, c1, rfl, hm1⟩; have HM1 := Lib.hid hm1; have HK1 := Lib.hid hm1.2.1; clear hm1)
    | (go_at_call 33; refine (HCP.out _ HK1.out).mono ?_; rintro e w2 ⟨v2, rfl, hc2⟩; obtain ⟨A2, c2, vals, rfl, ho2, ha2, hk2, hf2⟩ := hc2; rw [List.take_of_length_le (by have := HNN.out; omega)] at ha2; obtain ⟨hvl, gs, cs, hat, hdis⟩ := ha2; have HVL := Lib.hid hvl; have HO2 := Lib.hid ho2; have HAT := Lib.hid hat; have HDI := Lib.hid hdis; have HK2 := Lib.hid hk2; have HF2 := Lib.hid hf2; clear hvl ho2 hat hdis hk2 hf2))
  have HKA := Lib.hid (HK1.out.trans HK2.out (fun _ _ h => h))
  have HWR := Lib.hid (HWA.out w2 A2 c2 HKA.out (CopRel.partsO (w := w1) HEACH.out HO2.out HNN.out ⟨HVL.out, gs, cs, HAT.out, HDI.out⟩ (fun i h => by have := HLO.out i h; have := HK1.out.size; omega) HF2.out))
  go_wp2_with (first
    | (go_at_call 22; refine HWR.out.mono ?_; rintro e w3 ⟨rfl, hw3⟩; have HW3 := Lib.hid hw3; clear hw3)
    | (go_at_call 17; refine (number_nil _).mono ?_; rintro e w4 ⟨rfl, h4⟩; subst h4))
  obtain ⟨v', hh3, hk3, hn3⟩ := HW3.out
  clear HW3
  have HH3 := Lib.hid hh3
  have HN3 := Lib.hid hn3
  clear hh3 hn3
  have ho3 := hk3.own HO2.out (fun g hg hf => by have := HF2.out g hg; have := HLO.out _ hf; have := HK1.out.size; omega)
  have hat3 : ∀ (i : Nat) (bs : List Int), pss[i]? = some bs → vals[i]? = some (Value.slice (some ⟨gs i, 0, none⟩) bs.length (cs i)) ∧ w3.ownsRow 0 5 1 (.slice (some ⟨gs i, 0, none⟩) (bs.length + 3) (cs i)) (bs.length + 3) (vb (bs ++ [1, 2, 3])) ∧ w1.heap.size ≤ gs i := fun i bs hi => by
    obtain ⟨a1, a2, a3⟩ := HAT.out i bs hi
    exact ⟨a1, hk3.own a2 (fun g hg hf => by have e : some (gs i) = some g := hg; injection e with e; subst e; have := HLO.out _ hf; have := HK1.out.size; omega), a3⟩
  have hk02 := (HKA.out.mono (G := Foot p v) (fun _ _ h => h.elim)).trans hk3 (fun _ _ h => h)
  have hgs2 : ∀ j, j < n → gs j < w2.heap.size := fun j hj => ((HAT.out j _ (List.getElem?_eq_getElem (by have := HNN.out; omega))).2.1.lt (gs j) rfl).2
  have HGS2 := Lib.hid hgs2
  clear HO2 HAT hgs2
  have HO2 := Lib.hid ho3
  have HAT := Lib.hid hat3
  have HK02 := Lib.hid hk02
  have HK3 := Lib.hid hk3
  clear ho3 hat3 hk02 hk3
  go_loopw [23] (fun i wr => ∃ k : Nat, k ≤ n ∧ i = .int .i64 k ∧ Hid (Keeps (fun x => ∃ j, j < k ∧ x = gs j) w3 wr)) (fun i _ => n - (intOf i).toNat)
  case atStart => exact ⟨0, by omega, rfl, Lib.hid (Keeps.refl _ _)⟩
  case round =>
    obtain ⟨k, hk, rfl, HKR⟩ := hrel
    by_cases hlt : k < n
    · have hgs : ∀ j, j < n → w1.heap.size ≤ gs j := fun j hj => (HAT.out j _ (List.getElem?_eq_getElem (by have := HNN.out; omega))).2.2
      have HKW : Hid (Keeps (Foot p v) w wr) := Lib.hid (HK02.out.trans HKR.out (fun i hi he => by obtain ⟨j, hj, rfl⟩ := he; exfalso; have := hgs j (by omega); have := HK1.out.size; omega))
      obtain ⟨gp, op, bs, A', c', hA, hbs, hcell, hrd, hb, hc', hbl⟩ := HR.out.at HKW.out (fun _ h => .inr h) (by have := HNN.out; omega : k < pss.length)
      subst hA
      obtain ⟨hva, how, hgk⟩ := HAT.out k bs hbs
      obtain ⟨m, hm⟩ : ∃ m, m = bs.length := ⟨_, rfl⟩
      rw [← hm] at hva how hcell hrd hc' hbl
      obtain ⟨gk, hgk'⟩ : ∃ gk, gk = gs k := ⟨_, rfl⟩
      obtain ⟨ck, hck⟩ : ∃ ck, ck = cs k := ⟨_, rfl⟩
      rw [← hgk', ← hck] at hva how
      rw [← hgk'] at hgk
      obtain ⟨gl, capl, el, _, hgl⟩ := HO2.out.form (by omega)
      injection el with el1 el2 el3
      subst el1 el3
      have hrow : Rd wr (some ⟨gl, 0, none⟩) n vals := (Rd.of_own HO2.out).keep HKR.out (fun _ ad had he => by
        obtain ⟨j, hj, e⟩ := he
        injection had with had
        subst had
        exact own_types HO2.out (HAT.out j _ (List.getElem?_eq_getElem (by have := HNN.out; omega))).2.1 (by decide) (g := gl) rfl (by rw [show gl = gs j from e]; rfl))
      have hlc : wr.cell? ⟨gl, k, none⟩ = some (.slice (some ⟨gk, 0, none⟩) m ck) := by
        obtain ⟨g0, o0, e0, hc0⟩ := hrow.2 (by omega)
        injection e0 with e0
        injection e0 with e0 e1
        subst e0 e1
        have := hc0 k hlt
        rw [Nat.zero_add] at this
        exact this.trans hva
      have HOW : Hid (wr.ownsRow 0 5 1 (.slice (some ⟨gk, 0, none⟩) (m + 3) ck) (m + 3) (vb (bs ++ [1, 2, 3]))) := Lib.hid (own_keepN HKR.out how (fun he => by
        obtain ⟨j, hj, e⟩ := he
        exact HDI.out j k hj (by have := HNN.out; omega) (by rw [← e, hgk'])))
      have HRD1 : Hid (Rd wr (some ⟨gk, 0, none⟩) m (vb bs)) := Lib.hid (by
        have := own_take HOW.out m (by omega)
        rwa [show vb (bs ++ [1, 2, 3]) = vb bs ++ vb [1, 2, 3] by simp [vb], List.take_left' (by simp [vb, hm])] at this)
      have HCL : Hid (∀ W, Keeps (fun _ => False) wr W → W.cell? ⟨gl, k, none⟩ = some (.slice (some ⟨gk, 0, none⟩) m ck) ∧ W.cell? ⟨gp, op + k, none⟩ = some (.slice A' m c')) := Lib.hid fun W hW => ⟨cell_stays hW hlc (fun h => h), cell_stays hW hcell (fun h => h)⟩
      have HQ1 : Hid (∀ W, Keeps (fun _ => False) wr W → Calls Tryd.prog 31 #[.slice (some ⟨gk, 0, none⟩) m ck, .slice A' m c'] W fun e w' => e = .returned (.bool true) ∧ Keeps (fun _ => False) W w') := Lib.hid fun W hW => by
        have := Equal_any W (some ⟨gk, 0, none⟩) A' m m ck c' bs bs (HRD1.out.keep hW (no_out _ _)) (hrd.keep hW (no_out _ _)) hb hb
        rw [decide_eq_true rfl] at this
        exact this.mono fun e w' ⟨he, hw⟩ => ⟨he, by rw [← hw]; exact Keeps.refl _ _⟩
      have HRD2 : Hid (Rd wr (some ⟨gk, m, none⟩) 3 (vb [1, 2, 3])) := Lib.hid (by
        have h := (Rd.of_own HOW.out).cut (k := m) (cap := ck) (by omega) (own_cap HOW.out)
        have hne : ck ≠ m := by have := own_cap HOW.out; omega
        rw [if_neg hne, show m + 3 - m = 3 by omega, show vb (bs ++ [1, 2, 3]) = vb bs ++ vb [1, 2, 3] by simp [vb], List.drop_left' (by simp [vb, hm])] at h
        have h' : Rd wr (some (if m = 0 then (⟨gk, 0, none⟩ : Addr) else ⟨gk, m, none⟩)) 3 (vb [1, 2, 3]) := by simpa [Addr.add] using h
        rwa [show (if m = 0 then (⟨gk, 0, none⟩ : Addr) else ⟨gk, m, none⟩) = ⟨gk, m, none⟩ by split <;> simp_all] at h')
      have HQ2 : Hid (∀ W gn cn, Keeps (fun _ => False) wr W → Rd W (some ⟨gn, 0, none⟩) 3 [.int .u8 1, .int .u8 2, .int .u8 3] → Calls Tryd.prog 31 #[.slice (some ⟨gk, m, none⟩) 3 (ck - m), .slice (some ⟨gn, 0, none⟩) 3 cn] W fun e w' => e = .returned (.bool true) ∧ Keeps (fun _ => False) W w') := Lib.hid fun W gn cn hW hn3 => by
        have := Equal_any W (some ⟨gk, m, none⟩) (some ⟨gn, 0, none⟩) 3 3 (ck - m) cn [1, 2, 3] [1, 2, 3] (HRD2.out.keep hW (no_out _ _)) hn3 isb3 isb3
        rw [decide_eq_true rfl] at this
        exact this.mono fun e w' ⟨he, hw⟩ => ⟨he, by rw [← hw]; exact Keeps.refl _ _⟩
      have hck3 : m + 3 ≤ ck := own_cap HOW.out
      have HGE := Lib.hid hgk'
      have HW3 : Hid (IntKind.i64.wrap ((m : Int) + 3) = (m : Int) + 3) := Lib.hid (by rw [IntKind.wrap_i64]; omega)
      have HNE : Hid ((m : Int) ≤ (m : Int) + 3 ∧ ck ≠ m) := Lib.hid ⟨by omega, by have := own_cap HOW.out; omega⟩
      have HC3 : Hid ((0 : Int) ≤ (m : Int) + 3 ∧ (m : Int) + 3 ≤ (ck : Int) ∧ ((m : Int) + 3).toNat = m + 3) := Lib.hid ⟨by omega, by have := own_cap HOW.out; omega, by omega⟩
      clear hm hgk' hck hgs
      clear hlc hrow how hrd hcell hb hva hbs hgk
      go_upto_region 7 with fail
      refine wp_region_held_drew (S := Keeps (fun _ => False) wr) (by kernel_rfl) (Keeps.refl (fun _ => False) _).drew (fun hHeld => ?_)
      refine wpAnyH_take (i := 0) (oi := ⟨some 26, _, _, _, _, _⟩) (v := ?_) rfl (by kernel_rfl) (by kernel_rfl) (by kernel_rfl) (fun _ _ _ h => h) (Or.inl ⟨by rfl, ?_⟩) hHeld ?_
      rotate_left
      · intro w' hSw
        go_simp
        first | done | rfl
      try simp only [Act.put, List.setIfInBounds_toArray, List.set_cons_zero, List.set_cons_succ]
      refine wpAnyH_take (i := 1) (oi := ⟨some 27, _, _, _, _, _⟩) (v := ?_) rfl (by kernel_rfl) (by kernel_rfl) (by kernel_rfl) (fun _ _ _ h => h) (Or.inl ⟨by rfl, ?_⟩) hHeld ?_
      rotate_left
      · intro w' hSw
        go_simp
        first | done | rfl
      try simp only [Act.put, List.setIfInBounds_toArray, List.set_cons_zero, List.set_cons_succ]
      refine wpAnyH_take (i := 2) (oi := ⟨some 28, _, _, _, _, _⟩) (v := ?_) rfl (by kernel_rfl) (by kernel_rfl) (by kernel_rfl) (fun _ _ _ h => h) (Or.inl ⟨by rfl, ?_⟩) hHeld ?_
      rotate_left
      · intro w' hSw
        go_simp
        first | done | rfl
      try simp only [Act.put, List.setIfInBounds_toArray, List.set_cons_zero, List.set_cons_succ]
      refine wpAnyH_take (i := 3) (oi := ⟨some 29, _, _, _, _, _⟩) (v := ?_) rfl (by kernel_rfl) (by kernel_rfl) (by kernel_rfl) (fun _ _ _ h => h) (Or.inl ⟨by rfl, ?_⟩) hHeld ?_
      rotate_left
      · intro w' hSw
        have cv := (HCL.out _ hSw).1
        go_simp
        first | done | rfl
      try simp only [Act.put, List.setIfInBounds_toArray, List.set_cons_zero, List.set_cons_succ]
      refine wpAnyH_take (i := 4) (oi := ⟨some 30, _, _, _, _, _⟩) (v := ?_) rfl (by kernel_rfl) (by kernel_rfl) (by kernel_rfl) (fun _ _ _ h => h) (Or.inl ⟨by rfl, ?_⟩) hHeld ?_
      rotate_left
      · intro w' hSw
        go_simp
        first | done | rfl
      try simp only [Act.put, List.setIfInBounds_toArray, List.set_cons_zero, List.set_cons_succ]
      refine wpAnyH_take (i := 5) (oi := ⟨some 31, _, _, _, _, _⟩) (v := ?_) rfl (by kernel_rfl) (by kernel_rfl) (by kernel_rfl) (fun _ _ _ h => h) (Or.inl ⟨by rfl, ?_⟩) hHeld ?_
      rotate_left
      · intro w' hSw
        go_simp
        first | done | rfl
      try simp only [Act.put, List.setIfInBounds_toArray, List.set_cons_zero, List.set_cons_succ]
      refine wpAnyH_take (i := 6) (oi := ⟨some 32, _, _, _, _, _⟩) (v := ?_) rfl (by kernel_rfl) (by kernel_rfl) (by kernel_rfl) (fun _ _ _ h => h) (Or.inl ⟨by rfl, ?_⟩) hHeld ?_
      rotate_left
      · intro w' hSw
        go_simp
        first | done | rfl
      try simp only [Act.put, List.setIfInBounds_toArray, List.set_cons_zero, List.set_cons_succ]
      refine wpAnyH_take (i := 7) (oi := ⟨some 33, _, _, _, _, _⟩) (v := ?_) rfl (by kernel_rfl) (by kernel_rfl) (by kernel_rfl) (fun _ _ _ h => h) (Or.inl ⟨by rfl, ?_⟩) hHeld ?_
      rotate_left
      · intro w' hSw
        have cv := (HCL.out _ hSw).2
        go_simp
        first | done | rfl
      try simp only [Act.put, List.setIfInBounds_toArray, List.set_cons_zero, List.set_cons_succ]
      refine wpAnyH_ready (rs := [8]) (by kernel_rfl) (by simp) ?_
      refine AllReadyH.cons (o := ⟨some 34, _, _, _, _, _⟩) rfl (fun K hK => ?_) AllReadyH.nil
      go_simp
      refine (HQ1.out _ hHeld).mono ?_
      rintro e v1 ⟨rfl, hk1⟩
      have hq1 := hHeld.trans hk1 (fun _ _ h => h)
      refine hK.out _ _ hq1 (fun hHeld => ?_)
      clear hK K
      try simp only [Act.put, List.setIfInBounds_toArray, List.set_cons_zero, List.set_cons_succ]
      refine wpAnyH_take (i := 9) (oi := ⟨some 35, _, _, _, _, _⟩) (v := ?_) rfl (by kernel_rfl) (by kernel_rfl) (by kernel_rfl) (fun _ _ _ h => h) (Or.inl ⟨by rfl, ?_⟩) hHeld ?_
      rotate_left
      · intro w' hSw
        go_simp
        first | done | rfl
      try simp only [Act.put, List.setIfInBounds_toArray, List.set_cons_zero, List.set_cons_succ]
      refine wpAnyH_take (i := 10) (oi := ⟨some 36, _, _, _, _, _⟩) (v := ?_) rfl (by kernel_rfl) (by kernel_rfl) (by kernel_rfl) (fun _ _ _ h => h) (Or.inl ⟨by rfl, ?_⟩) hHeld ?_
      rotate_left
      · intro w' hSw
        go_simp
        first | done | rfl
      try simp only [Act.put, List.setIfInBounds_toArray, List.set_cons_zero, List.set_cons_succ]
      refine wpAnyH_take (i := 11) (oi := ⟨some 37, _, _, _, _, _⟩) (v := ?_) rfl (by kernel_rfl) (by kernel_rfl) (by kernel_rfl) (fun _ _ _ h => h) (Or.inl ⟨by rfl, ?_⟩) hHeld ?_
      rotate_left
      · intro w' hSw
        go_simp
        first | done | rfl
      try simp only [Act.put, List.setIfInBounds_toArray, List.set_cons_zero, List.set_cons_succ]
      refine wpAnyH_take (i := 12) (oi := ⟨some 38, _, _, _, _, _⟩) (v := ?_) rfl (by kernel_rfl) (by kernel_rfl) (by kernel_rfl) (fun _ _ _ h => h) (Or.inl ⟨by rfl, ?_⟩) hHeld ?_
      rotate_left
      · intro w' hSw
        go_simp
        first | done | rfl
      try simp only [Act.put, List.setIfInBounds_toArray, List.set_cons_zero, List.set_cons_succ]
      refine wpAnyH_take (i := 13) (oi := ⟨some 39, _, _, _, _, _⟩) (v := ?_) rfl (by kernel_rfl) (by kernel_rfl) (by kernel_rfl) (fun _ _ _ h => h) (Or.inl ⟨by rfl, ?_⟩) hHeld ?_
      rotate_left
      · intro w' hSw
        go_simp
        first | done | rfl
      try simp only [Act.put, List.setIfInBounds_toArray, List.set_cons_zero, List.set_cons_succ]
      refine wpAnyH_take (i := 14) (oi := ⟨some 40, _, _, _, _, _⟩) (v := ?_) rfl (by kernel_rfl) (by kernel_rfl) (by kernel_rfl) (fun _ _ _ h => h) (Or.inl ⟨by rfl, ?_⟩) hHeld ?_
      rotate_left
      · intro w' hSw
        have cv := (HCL.out _ hSw).1
        go_simp
        first | done | rfl
      try simp only [Act.put, List.setIfInBounds_toArray, List.set_cons_zero, List.set_cons_succ]
      refine wpAnyH_take (i := 15) (oi := ⟨some 41, _, _, _, _, _⟩) (v := ?_) rfl (by kernel_rfl) (by kernel_rfl) (by kernel_rfl) (fun _ _ _ h => h) (Or.inl ⟨by rfl, ?_⟩) hHeld ?_
      rotate_left
      · intro w' hSw
        go_simp
        first | done | rfl
      try simp only [Act.put, List.setIfInBounds_toArray, List.set_cons_zero, List.set_cons_succ]
      refine wpAnyH_take (i := 16) (oi := ⟨some 42, _, _, _, _, _⟩) (v := ?_) rfl (by kernel_rfl) (by kernel_rfl) (by kernel_rfl) (fun _ _ _ h => h) (Or.inl ⟨by rfl, ?_⟩) hHeld ?_
      rotate_left
      · intro w' hSw
        go_simp
        first | done | rfl
      try simp only [Act.put, List.setIfInBounds_toArray, List.set_cons_zero, List.set_cons_succ]
      refine wpAnyH_take (i := 17) (oi := ⟨some 43, _, _, _, _, _⟩) (v := ?_) rfl (by kernel_rfl) (by kernel_rfl) (by kernel_rfl) (fun _ _ _ h => h) (Or.inl ⟨by rfl, ?_⟩) hHeld ?_
      rotate_left
      · intro w' hSw
        go_simp
        first | done | rfl
      try simp only [Act.put, List.setIfInBounds_toArray, List.set_cons_zero, List.set_cons_succ]
      refine wpAnyH_take (i := 18) (oi := ⟨some 44, _, _, _, _, _⟩) (v := ?_) rfl (by kernel_rfl) (by kernel_rfl) (by kernel_rfl) (fun _ _ _ h => h) (Or.inl ⟨by rfl, ?_⟩) hHeld ?_
      rotate_left
      · intro w' hSw
        have cv := (HCL.out _ hSw).1
        go_simp
        first | done | rfl
      try simp only [Act.put, List.setIfInBounds_toArray, List.set_cons_zero, List.set_cons_succ]
      refine wpAnyH_take (i := 19) (oi := ⟨some 45, _, _, _, _, _⟩) (v := ?_) rfl (by kernel_rfl) (by kernel_rfl) (by kernel_rfl) (fun _ _ _ h => h) (Or.inl ⟨by rfl, ?_⟩) hHeld ?_
      rotate_left
      · intro w' hSw
        go_simp
        first | done | rfl
      try simp only [Act.put, List.setIfInBounds_toArray, List.set_cons_zero, List.set_cons_succ]
      refine wpAnyH_take (i := 20) (oi := ⟨some 46, _, _, _, _, _⟩) (v := ?_) rfl (by kernel_rfl) (by kernel_rfl) (by kernel_rfl) (fun _ _ _ h => h) (Or.inl ⟨by rfl, ?_⟩) hHeld ?_
      rotate_left
      · intro w' hSw
        have hw3 := HW3.out
        go_simp
        first | done | rfl
      try simp only [Act.put, List.setIfInBounds_toArray, List.set_cons_zero, List.set_cons_succ]
      refine wpAnyH_take (i := 21) (oi := ⟨some 47, _, _, _, _, _⟩) (v := ?_) rfl (by kernel_rfl) (by kernel_rfl) (by kernel_rfl) (fun _ _ _ h => h) (Or.inl ⟨by rfl, ?_⟩) hHeld ?_
      rotate_left
      · intro w' hSw
        obtain ⟨hc3, hc4, hc5⟩ := HC3.out
        go_simp
        first | done | rfl
      try simp only [Act.put, List.setIfInBounds_toArray, List.set_cons_zero, List.set_cons_succ]
      refine wpAnyH_take (i := 22) (oi := ⟨some 48, _, _, _, _, _⟩) (v := ?_) rfl (by kernel_rfl) (by kernel_rfl) (by kernel_rfl) (fun _ _ _ h => h) (Or.inl ⟨by rfl, ?_⟩) hHeld ?_
      rotate_left
      · intro w' hSw
        go_simp
        first | done | rfl
      try simp only [Act.put, List.setIfInBounds_toArray, List.set_cons_zero, List.set_cons_succ]
      refine wpAnyH_take (i := 23) (oi := ⟨some 49, _, _, _, _, _⟩) (v := ?_) rfl (by kernel_rfl) (by kernel_rfl) (by kernel_rfl) (fun _ _ _ h => h) (Or.inl ⟨by rfl, ?_⟩) hHeld ?_
      rotate_left
      · intro w' hSw
        go_simp
        first | done | rfl
      try simp only [Act.put, List.setIfInBounds_toArray, List.set_cons_zero, List.set_cons_succ]
      refine wpAnyH_take (i := 24) (oi := ⟨some 50, _, _, _, _, _⟩) (v := ?_) rfl (by kernel_rfl) (by kernel_rfl) (by kernel_rfl) (fun _ _ _ h => h) (Or.inl ⟨by rfl, ?_⟩) hHeld ?_
      rotate_left
      · intro w' hSw
        go_simp
        first | done | rfl
      try simp only [Act.put, List.setIfInBounds_toArray, List.set_cons_zero, List.set_cons_succ]
      refine wpAnyH_take (i := 25) (oi := ⟨some 51, _, _, _, _, _⟩) (v := ?_) rfl (by kernel_rfl) (by kernel_rfl) (by kernel_rfl) (fun _ _ _ h => h) (Or.inl ⟨by rfl, ?_⟩) hHeld ?_
      rotate_left
      · intro w' hSw
        have cv := (HCL.out _ hSw).1
        go_simp
        first | done | rfl
      try simp only [Act.put, List.setIfInBounds_toArray, List.set_cons_zero, List.set_cons_succ]
      refine wpAnyH_take (i := 26) (oi := ⟨some 52, _, _, _, _, _⟩) (v := ?_) rfl (by kernel_rfl) (by kernel_rfl) (by kernel_rfl) (fun _ _ _ h => h) (Or.inl ⟨by rfl, ?_⟩) hHeld ?_
      rotate_left
      · intro w' hSw
        go_simp
        first | done | rfl
      try simp only [Act.put, List.setIfInBounds_toArray, List.set_cons_zero, List.set_cons_succ]
      refine wpAnyH_take (i := 27) (oi := ⟨some 53, _, _, _, _, _⟩) (v := ?_) rfl (by kernel_rfl) (by kernel_rfl) (by kernel_rfl) (fun _ _ _ h => h) (Or.inl ⟨by rfl, ?_⟩) hHeld ?_
      rotate_left
      · intro w' hSw
        obtain ⟨hc3, hc4, hc5⟩ := HC3.out; obtain ⟨hc6, hc7⟩ := HNE.out
        go_simp
        first | done | rfl
      try simp only [Act.put, List.setIfInBounds_toArray, List.set_cons_zero, List.set_cons_succ]
      refine wpAnyH_ready (rs := [28]) (by kernel_rfl) (by simp) ?_
      refine AllReadyH.cons (o := ⟨some 54, _, _, _, _, _⟩) rfl (fun K hK => ?_) AllReadyH.nil
      go_simp
      have hn3 := Blk.new v1 5 [.int .u8 1, .int .u8 2, .int .u8 3]
      refine hK.out _ _ (hHeld.alloc _) (fun hHeld => ?_)
      clear hK K
      try simp only [Act.put, List.setIfInBounds_toArray, List.set_cons_zero, List.set_cons_succ]
      refine wpAnyH_ready (rs := [29]) (by kernel_rfl) (by simp) ?_
      refine AllReadyH.cons (o := ⟨some 55, _, _, _, _, _⟩) rfl (fun K hK => ?_) AllReadyH.nil
      go_simp
      refine (HQ2.out _ _ _ hHeld (Rd.of_blk hn3 (n := 3) rfl)).mono ?_
      rintro e v3 ⟨rfl, hk3⟩
      have hq3 := hHeld.trans hk3 (fun _ _ h => h)
      refine hK.out _ _ hq3 (fun hHeld => ?_)
      clear hK K
      try simp only [Act.put, List.setIfInBounds_toArray, List.set_cons_zero, List.set_cons_succ]
      refine wpAnyH_take (i := 30) (oi := ⟨some 56, _, _, _, _, _⟩) (v := ?_) rfl (by kernel_rfl) (by kernel_rfl) (by kernel_rfl) (fun _ _ _ h => h) (Or.inl ⟨by rfl, ?_⟩) hHeld ?_
      rotate_left
      · intro w' hSw
        go_simp
        first | done | rfl
      try simp only [Act.put, List.setIfInBounds_toArray, List.set_cons_zero, List.set_cons_succ]
      refine wpAnyH_take (i := 31) (oi := ⟨some 57, _, _, _, _, _⟩) (v := ?_) rfl (by kernel_rfl) (by kernel_rfl) (by kernel_rfl) (fun _ _ _ h => h) (Or.inl ⟨by rfl, ?_⟩) hHeld ?_
      rotate_left
      · intro w' hSw
        go_simp
        first | done | rfl
      try simp only [Act.put, List.setIfInBounds_toArray, List.set_cons_zero, List.set_cons_succ]
      refine wpAnyH_done (by kernel_rfl) ?_ _

      have HQ3 := Lib.hid hq3
      have cv := (HCL.out _ hq3).1
      have HOW3 : Hid (v3.ownsRow 0 5 1 (.slice (some ⟨gk, 0, none⟩) (m + 3) ck) (m + 3) (vb (bs ++ [1, 2, 3]))) := Lib.hid (hq3.own HOW.out (fun _ _ h => h))
      go_wp2_with ((with_reducible show wpList _ _ _ (⟨none, Op.call _, _, _, _, _⟩ :: _) _ _); refine wpList_clear_own _ rfl (.tmp 61) 26 5 (.int .u8 0) rfl Tryd.underlying26 zero_u8 rfl rfl gk m (m + 3) ck _ rfl HOW3.out (by omega) ?_; intro w7 hk7; have HK7 := Lib.hid hk7; clear hk7)
      go_roundw
      case rel => exact ⟨k + 1, by omega, by go_num, Lib.hid (((HKR.out.mono (fun i _ ⟨j, hj, e⟩ => ⟨j, by omega, e⟩)).trans HQ3.out (fun _ _ h => h.elim)).trans HK7.out (fun i _ e => ⟨k, by omega, by rw [← HGE.out]; exact e⟩))⟩
      case measure => simp [intOf]; omega
    · obtain rfl : k = n := by omega
      have hgs : ∀ j, j < k → w1.heap.size ≤ gs j := fun j hj => (HAT.out j _ (List.getElem?_eq_getElem (by have := HNN.out; omega))).2.2
      have HKW : Hid (Keeps (Foot p v) w wr) := Lib.hid (HK02.out.trans HKR.out (fun i hi he => by obtain ⟨j, hj, rfl⟩ := he; exfalso; have := hgs j (by omega); have := HK1.out.size; omega))
      have HHR : Hid (HashAt wr p v' S nb Y) := Lib.hid (HH3.out.keep HKR.out (fun i hi he => by
        obtain ⟨j, hj, rfl⟩ := he
        have h1 := HGS2.out j hj
        have h2 := hgs j hj
        have h3 := HK1.out.size
        rcases hi with e | e
        · have := HLO.out (gs j) (.inl e); omega
        · rcases HN3.out _ e with e | e
          · have := HLO.out (gs j) (.inr e); omega
          · omega))
      have HFL : Hid (∀ i, Foot p v' i → Foot p v i ∨ w2.heap.size ≤ i) := Lib.hid fun i hi => hi.elim (fun e => .inl (.inl e)) (fun e => (HN3.out i e).elim (fun e => .inl (.inr e)) .inr)
      have HMB : Hid (Rd wr A1 N (vb FL)) := Lib.hid ((Rd.of_own ((((HK2.out.mono (G := Foot p v) (fun _ _ h => h.elim)).trans HK3.out (fun _ _ h => h)).own HM1.out.1 (fun g hg hf => by have := HM1.out.2.2 g hg; have := HLO.out g hf; omega)))).keep HKR.out (fun hn ad had he => by
        obtain ⟨j, hj, e⟩ := he
        obtain ⟨g1, o1, e1, hlt1⟩ := (Rd.of_own HM1.out.1).lt hn
        rw [e1] at had
        injection had with had
        subst had
        have := hgs j hj
        have e' : g1 = gs j := e
        omega))
      clear hgs
      have HBE : Hid (∀ W, Keeps (fun _ => False) wr W → Blk W gw TW WW) := Lib.hid fun W hW => hW.blk (HKW.out.blk HBW.out HGW.out) (fun h => h)
      go_wp2_with (first
        | ((with_reducible show wpList _ _ _ (⟨_, Op.load 67 _, _, _, _, _⟩ :: _) _ _); refine wpList_load_at_g rfl 67 _ rfl kw 10 _ rfl (HBE.out _ (by first | exact HK9.out | exact Keeps.refl _ _)) HLW.out Tryd.underlying67 rfl infoRH ?_; rw [HROW.out])
        | (go_at_call 53; refine (HRM.out _).mono ?_; rintro e w9 ⟨rfl, hk9⟩; have HK9 := Lib.hid hk9; clear hk9)
        | (go_at_call 49; refine (HRW.out w9 A1 c1 (HKW.out.trans HK9.out (fun _ _ h => h.elim)) (HMB.out.keep HK9.out (no_out _ _))).mono ?_; rintro e w10 ⟨A5, c5, rfl, hr5, hk5, hg5⟩; have HR5 := Lib.hid hr5; have HK5 := Lib.hid hk5; have HG5 := Lib.hid hg5; clear hr5 hk5 hg5)
        | ((with_reducible show wpList _ _ _ (⟨none, Op.store 67 _ _, _, _, _, _⟩ :: _) _ _); refine wpList_store_at rfl 67 _ _ rfl kw (H2 (.slice A5 ry c5)) rfl rfl (HBE.out _ (HK9.out.trans HK5.out (fun _ _ h => h))) (by rw [HL2.out]; exact HLW.out) (by rw [HL2.out]; exact infoRH) (HO1.out _ _ _) ?_))
      go_ret
      have hk10 : Keeps (fun _ => False) wr w10 := HK9.out.trans HK5.out (fun _ _ h => h)
      have hbe := HBE.out _ hk10
      have hset : Keeps (fun i => i = gw) w10 (w10.setRow gw (Go.Aff.splice WW kw (H2 (.slice A5 ry c5))).toArray) := (Keeps.refl (fun i => i = gw) _).setRow (.inl rfl) _
      have hsz : w.heap.size ≤ w2.heap.size := HKA.out.size
      have hsz3 : w.heap.size ≤ wr.heap.size := HKW.out.size
      have h9 : wr.heap.size ≤ w9.heap.size := HK9.out.size
      refine ⟨rfl, v', A5, c5, ry, Y, HYY.out, HRY.out, (HHR.out.keep hk10 (fun _ _ h => h)).keep hset (fun i hi e => ?_), fun g hg => (HN3.out g hg).imp id (fun h => Nat.le_trans hsz h), ?_, fun ad h0 had => ?_, ?_, ?_⟩
      · have e' : i = gw := e
        subst e'
        rcases HFL.out _ hi with h | h
        · exact HGW.out h
        · have := HGL.out; omega
      · rw [← HXY.out]
        refine HR5.out.keep hset (fun h0 ad had e => ?_)
        have h1 := HG5.out ad had h0
        have e' : ad.block = gw := e
        have := HGL.out
        omega
      · have h1 := HG5.out ad had h0
        refine ⟨by omega, fun hf => ?_⟩
        have h2 := HHR.out.lt _ hf
        omega
      · rw [← HTY.out, ← HBY.out]
        have h2 : hcells TY by_ (.slice A5 ry c5) = H2 (.slice A5 ry c5) := by rw [HH2.out]
        rw [h2]
        exact hbe.setRow _
      · exact ((HKW.out.trans hk10 (fun _ _ h => h.elim)).mono (G := fun i => i = gw ∨ Foot p v i) (fun _ _ h => .inr h)).trans hset (fun _ _ e => .inl e)
end Go.Proofs.YtgblndddcbfdiaaDoor
