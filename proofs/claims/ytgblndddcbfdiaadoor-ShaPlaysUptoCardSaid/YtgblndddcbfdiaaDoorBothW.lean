/-
  WALK: write (a Write of both).
-/
import Derived.Test.YtgblndddcbfdiaaDoorToldW
import Derived.Test.YtgblndddcbfdiaaDoorFreshW
import Derived.Test.YtgblndddcbfdiaaDoorCopiedW
import Derived.Test.YtgblndddcbfdiaaDoorRoomW
import Derived.Test.YtgblndddcbfdiaaDoorNilHW
set_option linter.unusedSimpArgs false
namespace Go.Proofs.YtgblndddcbfdiaaDoor
open Go Go.RowKit Go.Sha Go.Aff
theorem cell_stays {F : Nat → Prop} {w w' : World} (hk : Keeps F w w') {p : Addr} {v : Value} (h : w.cell? p = some v) (hF : ¬ F p.block) : w'.cell? p = some v := by
  have hlt : p.block < w.heap.size := by
    rcases Nat.lt_or_ge p.block w.heap.size with h1 | h1
    · exact h1
    · exfalso
      unfold World.cell? at h
      simp [Array.getElem?_eq_none h1] at h
  exact (hk.cell hlt hF).trans h
theorem isb3 : IsBytes [1, 2, 3] := by
  intro x hx
  simp at hx
  omega
/-- Part k. -/
theorem RdPartsO.at {F G : Nat → Prop} {w wr : World} {A : Option Addr} {pss : List (List Int)} (h : RdPartsO F w A pss) (hk : Keeps G w wr) (hG : ∀ i, G i → F i) {k : Nat} (hlt : k < pss.length) :
    ∃ g o bs A' c', A = some ⟨g, o, none⟩ ∧ pss[k]? = some bs ∧ wr.cell? ⟨g, o + k, none⟩ = some (.slice A' bs.length c') ∧ Rd wr A' bs.length (vb bs) ∧ IsBytes bs ∧ bs.length ≤ c' ∧ bs.length ≤ 140737488351232 := by
  obtain ⟨vals, hv, _, hparts⟩ := h.keep hk hG
  obtain ⟨g, o, e, hc⟩ := hv.2 (by omega)
  obtain ⟨bs, hbs⟩ : ∃ bs, pss[k]? = some bs := ⟨_, List.getElem?_eq_getElem hlt⟩
  obtain ⟨A', c', h1, h2, _, h4, h5, h6⟩ := hparts k bs hbs
  exact ⟨g, o, bs, A', c', e, hbs, (hc k hlt).trans h1, h2, h4, h5, h6⟩
set_option maxHeartbeats 4000000 in
set_option maxRecDepth 100000 in
theorem write_nil (w : World) (pw : Value) (A : Option Addr) (n c : Nat) (pss : List (List Int)) (hnn : pss.length = n) (hr : RdPartsO (fun _ => False) w A pss) (hn : n ≤ 1048576) (hbig : pss.flatten.length ≤ 140737488355328) :
    Calls Tryd.prog 37 #[.pointer none, pw, .bool false, .slice A n c] w fun e w' => e = .returned (.bool true) ∧ Keeps (fun _ => False) w w' := by
  obtain ⟨FL, hFL⟩ : ∃ FL, FL = pss.flatten := ⟨_, rfl⟩
  obtain ⟨N, hN⟩ : ∃ N, N = FL.length := ⟨_, rfl⟩
  have HCC : Hid (Calls Tryd.prog 28 #[.slice A n c] w fun e w' => ∃ A' c', e = .returned (.slice A' N c') ∧ Mine w w' 5 A' N c' (vb FL)) := Lib.hid (by
    have h := Concat_any w A c pss hr (by omega) hbig
    rw [hnn] at h
    exact h.mono (fun e w' h => by rw [hN, hFL]; exact h))
  have HCP : Hid (∀ W, Keeps (fun _ => False) w W → Calls Tryd.prog 33 #[.slice A n c] W fun e w' => ∃ v, e = .returned v ∧ CopRel W pss n v w') := Lib.hid fun W hW => by
    have h := copied_any W A c pss (hr.keep hW (fun _ h => h)) (by omega)
    rwa [hnn] at h
  have HNN := Lib.hid hnn
  have HR := Lib.hid hr
  clear hFL hN hbig hr hnn
  go_enter Tryd.func37, Tryd.ntmps37
  go_upto_region 3 with (first
    | (go_at_call 28; refine HCC.out.mono ?_; rintro e w1 ⟨A1, c1, rfl, hm1⟩; have HM1 := Lib.hid hm1; have HK1 := Lib.hid hm1.2.1; clear hm1)
    | (go_at_call 33; refine (HCP.out _ HK1.out).mono ?_; rintro e w2 ⟨v2, rfl, hc2⟩; obtain ⟨A2, c2, vals, rfl, ho2, ha2, hk2, hf2⟩ := hc2; rw [List.take_of_length_le (by have := HNN.out; omega)] at ha2; obtain ⟨hvl, gs, cs, hat, hdis⟩ := ha2; have HVL := Lib.hid hvl; have HO2 := Lib.hid ho2; have HAT := Lib.hid hat; have HDI := Lib.hid hdis; have HK2 := Lib.hid hk2; have HF2 := Lib.hid hf2; clear hvl ho2 hat hdis hk2 hf2))
  go_wp2_with (first
    | (go_at_call 22; refine (Write_nil _ _ _ _).mono ?_; rintro e w3 ⟨rfl, rfl⟩)
    | (go_at_call 17; refine (number_errno _ 1 rfl).mono ?_; rintro e w3 ⟨rfl, rfl⟩))
  have HK02 := Lib.hid (HK1.out.trans HK2.out (fun _ _ h => h))
  go_loopw [23] (fun i wr => ∃ k : Nat, k ≤ n ∧ i = .int .i64 k ∧ Hid (Keeps (fun x => ∃ j, j < k ∧ x = gs j) w2 wr)) (fun i _ => n - (intOf i).toNat)
  case atStart => exact ⟨0, by omega, rfl, Lib.hid (Keeps.refl _ _)⟩
  case round =>
    obtain ⟨k, hk, rfl, HKR⟩ := hrel
    by_cases hlt : k < n
    · have hgs : ∀ j, j < n → w1.heap.size ≤ gs j := fun j hj => (HAT.out j _ (List.getElem?_eq_getElem (by have := HNN.out; omega))).2.2
      have HKW : Hid (Keeps (fun _ => False) w wr) := Lib.hid (HK02.out.trans HKR.out (fun i hi he => by obtain ⟨j, hj, rfl⟩ := he; have := hgs j (by omega); have := HK1.out.size; omega))
      obtain ⟨gp, op, bs, A', c', hA, hbs, hcell, hrd, hb, hc', hbl⟩ := HR.out.at HKW.out (fun _ h => h) (by have := HNN.out; omega : k < pss.length)
      subst hA
      obtain ⟨hva, how, hgk⟩ := HAT.out k bs hbs
      obtain ⟨m, hm⟩ : ∃ m, m = bs.length := ⟨_, rfl⟩
      rw [← hm] at hva how hcell hrd hc' hbl
      obtain ⟨gk, hgk'⟩ : ∃ gk, gk = gs k := ⟨_, rfl⟩
      obtain ⟨ck, hck⟩ : ∃ ck, ck = cs k := ⟨_, rfl⟩
      rw [← hgk', ← hck] at hva how
      rw [← hgk'] at hgk
      obtain ⟨gl, capl, el, _, hgl⟩ := HO2.out.form (by omega)
      injection el with el1 el2 el3
      subst el1 el3
      have hrow : Rd wr (some ⟨gl, 0, none⟩) n vals := (Rd.of_own HO2.out).keep HKR.out (fun _ ad had he => by
        obtain ⟨j, hj, e⟩ := he
        injection had with had
        subst had
        exact own_types HO2.out (HAT.out j _ (List.getElem?_eq_getElem (by have := HNN.out; omega))).2.1 (by decide) (g := gl) rfl (by rw [show gl = gs j from e]; rfl))
      have hlc : wr.cell? ⟨gl, k, none⟩ = some (.slice (some ⟨gk, 0, none⟩) m ck) := by
        obtain ⟨g0, o0, e0, hc0⟩ := hrow.2 (by omega)
        injection e0 with e0
        injection e0 with e0 e1
        subst e0 e1
        have := hc0 k hlt
        rw [Nat.zero_add] at this
        exact this.trans hva
      have HOW : Hid (wr.ownsRow 0 5 1 (.slice (some ⟨gk, 0, none⟩) (m + 3) ck) (m + 3) (vb (bs ++ [1, 2, 3]))) := Lib.hid (own_keepN HKR.out how (fun he => by
        obtain ⟨j, hj, e⟩ := he
        exact HDI.out j k hj (by have := HNN.out; omega) (by rw [← e, hgk'])))
      have HRD1 : Hid (Rd wr (some ⟨gk, 0, none⟩) m (vb bs)) := Lib.hid (by
        have := own_take HOW.out m (by omega)
        rwa [show vb (bs ++ [1, 2, 3]) = vb bs ++ vb [1, 2, 3] by simp [vb], List.take_left' (by simp [vb, hm])] at this)
      have HCL : Hid (∀ W, Keeps (fun _ => False) wr W → W.cell? ⟨gl, k, none⟩ = some (.slice (some ⟨gk, 0, none⟩) m ck) ∧ W.cell? ⟨gp, op + k, none⟩ = some (.slice A' m c')) := Lib.hid fun W hW => ⟨cell_stays hW hlc (fun h => h), cell_stays hW hcell (fun h => h)⟩
      have HQ1 : Hid (∀ W, Keeps (fun _ => False) wr W → Calls Tryd.prog 31 #[.slice (some ⟨gk, 0, none⟩) m ck, .slice A' m c'] W fun e w' => e = .returned (.bool true) ∧ Keeps (fun _ => False) W w') := Lib.hid fun W hW => by
        have := Equal_any W (some ⟨gk, 0, none⟩) A' m m ck c' bs bs (HRD1.out.keep hW (no_out _ _)) (hrd.keep hW (no_out _ _)) hb hb
        rw [decide_eq_true rfl] at this
        exact this.mono fun e w' ⟨he, hw⟩ => ⟨he, by rw [← hw]; exact Keeps.refl _ _⟩
      have HRD2 : Hid (Rd wr (some ⟨gk, m, none⟩) 3 (vb [1, 2, 3])) := Lib.hid (by
        have h := (Rd.of_own HOW.out).cut (k := m) (cap := ck) (by omega) (own_cap HOW.out)
        have hne : ck ≠ m := by have := own_cap HOW.out; omega
        rw [if_neg hne, show m + 3 - m = 3 by omega, show vb (bs ++ [1, 2, 3]) = vb bs ++ vb [1, 2, 3] by simp [vb], List.drop_left' (by simp [vb, hm])] at h
        have h' : Rd wr (some (if m = 0 then (⟨gk, 0, none⟩ : Addr) else ⟨gk, m, none⟩)) 3 (vb [1, 2, 3]) := by simpa [Addr.add] using h
        rwa [show (if m = 0 then (⟨gk, 0, none⟩ : Addr) else ⟨gk, m, none⟩) = ⟨gk, m, none⟩ by split <;> simp_all] at h')
      have HQ2 : Hid (∀ W gn cn, Keeps (fun _ => False) wr W → Rd W (some ⟨gn, 0, none⟩) 3 [.int .u8 1, .int .u8 2, .int .u8 3] → Calls Tryd.prog 31 #[.slice (some ⟨gk, m, none⟩) 3 (ck - m), .slice (some ⟨gn, 0, none⟩) 3 cn] W fun e w' => e = .returned (.bool true) ∧ Keeps (fun _ => False) W w') := Lib.hid fun W gn cn hW hn3 => by
        have := Equal_any W (some ⟨gk, m, none⟩) (some ⟨gn, 0, none⟩) 3 3 (ck - m) cn [1, 2, 3] [1, 2, 3] (HRD2.out.keep hW (no_out _ _)) hn3 isb3 isb3
        rw [decide_eq_true rfl] at this
        exact this.mono fun e w' ⟨he, hw⟩ => ⟨he, by rw [← hw]; exact Keeps.refl _ _⟩
      have hck3 : m + 3 ≤ ck := own_cap HOW.out
      have HGE := Lib.hid hgk'
      have HW3 : Hid (IntKind.i64.wrap ((m : Int) + 3) = (m : Int) + 3) := Lib.hid (by rw [IntKind.wrap_i64]; omega)
      have HNE : Hid ((m : Int) ≤ (m : Int) + 3 ∧ ck ≠ m) := Lib.hid ⟨by omega, by have := own_cap HOW.out; omega⟩
      have HC3 : Hid ((0 : Int) ≤ (m : Int) + 3 ∧ (m : Int) + 3 ≤ (ck : Int) ∧ ((m : Int) + 3).toNat = m + 3) := Lib.hid ⟨by omega, by have := own_cap HOW.out; omega, by omega⟩
      clear hm hgk' hck hgs
      clear hlc hrow how hrd hcell hb hva hbs hgk
      go_upto_region 7 with fail
      refine wp_region_held_drew (S := Keeps (fun _ => False) wr) (by kernel_rfl) (Keeps.refl (fun _ => False) _).drew (fun hHeld => ?_)
      refine wpAnyH_take (i := 0) (oi := ⟨some 26, _, _, _, _, _⟩) (v := ?_) rfl (by kernel_rfl) (by kernel_rfl) (by kernel_rfl) (fun _ _ _ h => h) (Or.inl ⟨by rfl, ?_⟩) hHeld ?_
      rotate_left
      · intro w' hSw
        go_simp
        first | done | rfl
      try simp only [Act.put, List.setIfInBounds_toArray, List.set_cons_zero, List.set_cons_succ]
      refine wpAnyH_take (i := 1) (oi := ⟨some 27, _, _, _, _, _⟩) (v := ?_) rfl (by kernel_rfl) (by kernel_rfl) (by kernel_rfl) (fun _ _ _ h => h) (Or.inl ⟨by rfl, ?_⟩) hHeld ?_
      rotate_left
      · intro w' hSw
        go_simp
        first | done | rfl
      try simp only [Act.put, List.setIfInBounds_toArray, List.set_cons_zero, List.set_cons_succ]
      refine wpAnyH_take (i := 2) (oi := ⟨some 28, _, _, _, _, _⟩) (v := ?_) rfl (by kernel_rfl) (by kernel_rfl) (by kernel_rfl) (fun _ _ _ h => h) (Or.inl ⟨by rfl, ?_⟩) hHeld ?_
      rotate_left
      · intro w' hSw
        go_simp
        first | done | rfl
      try simp only [Act.put, List.setIfInBounds_toArray, List.set_cons_zero, List.set_cons_succ]
      refine wpAnyH_take (i := 3) (oi := ⟨some 29, _, _, _, _, _⟩) (v := ?_) rfl (by kernel_rfl) (by kernel_rfl) (by kernel_rfl) (fun _ _ _ h => h) (Or.inl ⟨by rfl, ?_⟩) hHeld ?_
      rotate_left
      · intro w' hSw
        have cv := (HCL.out _ hSw).1
        go_simp
        first | done | rfl
      try simp only [Act.put, List.setIfInBounds_toArray, List.set_cons_zero, List.set_cons_succ]
      refine wpAnyH_take (i := 4) (oi := ⟨some 30, _, _, _, _, _⟩) (v := ?_) rfl (by kernel_rfl) (by kernel_rfl) (by kernel_rfl) (fun _ _ _ h => h) (Or.inl ⟨by rfl, ?_⟩) hHeld ?_
      rotate_left
      · intro w' hSw
        go_simp
        first | done | rfl
      try simp only [Act.put, List.setIfInBounds_toArray, List.set_cons_zero, List.set_cons_succ]
      refine wpAnyH_take (i := 5) (oi := ⟨some 31, _, _, _, _, _⟩) (v := ?_) rfl (by kernel_rfl) (by kernel_rfl) (by kernel_rfl) (fun _ _ _ h => h) (Or.inl ⟨by rfl, ?_⟩) hHeld ?_
      rotate_left
      · intro w' hSw
        go_simp
        first | done | rfl
      try simp only [Act.put, List.setIfInBounds_toArray, List.set_cons_zero, List.set_cons_succ]
      refine wpAnyH_take (i := 6) (oi := ⟨some 32, _, _, _, _, _⟩) (v := ?_) rfl (by kernel_rfl) (by kernel_rfl) (by kernel_rfl) (fun _ _ _ h => h) (Or.inl ⟨by rfl, ?_⟩) hHeld ?_
      rotate_left
      · intro w' hSw
        go_simp
        first | done | rfl
      try simp only [Act.put, List.setIfInBounds_toArray, List.set_cons_zero, List.set_cons_succ]
      refine wpAnyH_take (i := 7) (oi := ⟨some 33, _, _, _, _, _⟩) (v := ?_) rfl (by kernel_rfl) (by kernel_rfl) (by kernel_rfl) (fun _ _ _ h => h) (Or.inl ⟨by rfl, ?_⟩) hHeld ?_
      rotate_left
      · intro w' hSw
        have cv := (HCL.out _ hSw).2
        go_simp
        first | done | rfl
      try simp only [Act.put, List.setIfInBounds_toArray, List.set_cons_zero, List.set_cons_succ]
      refine wpAnyH_ready (rs := [8]) (by kernel_rfl) (by simp) ?_
      refine AllReadyH.cons (o := ⟨some 34, _, _, _, _, _⟩) rfl (fun K hK => ?_) AllReadyH.nil
      go_simp
      refine (HQ1.out _ hHeld).mono ?_
      rintro e v1 ⟨rfl, hk1⟩
      have hq1 := hHeld.trans hk1 (fun _ _ h => h)
      refine hK.out _ _ hq1 (fun hHeld => ?_)
      clear hK K
      try simp only [Act.put, List.setIfInBounds_toArray, List.set_cons_zero, List.set_cons_succ]
      refine wpAnyH_take (i := 9) (oi := ⟨some 35, _, _, _, _, _⟩) (v := ?_) rfl (by kernel_rfl) (by kernel_rfl) (by kernel_rfl) (fun _ _ _ h => h) (Or.inl ⟨by rfl, ?_⟩) hHeld ?_
      rotate_left
      · intro w' hSw
        go_simp
        first | done | rfl
      try simp only [Act.put, List.setIfInBounds_toArray, List.set_cons_zero, List.set_cons_succ]
      refine wpAnyH_take (i := 10) (oi := ⟨some 36, _, _, _, _, _⟩) (v := ?_) rfl (by kernel_rfl) (by kernel_rfl) (by kernel_rfl) (fun _ _ _ h => h) (Or.inl ⟨by rfl, ?_⟩) hHeld ?_
      rotate_left
      · intro w' hSw
        go_simp
        first | done | rfl
      try simp only [Act.put, List.setIfInBounds_toArray, List.set_cons_zero, List.set_cons_succ]
      refine wpAnyH_take (i := 11) (oi := ⟨some 37, _, _, _, _, _⟩) (v := ?_) rfl (by kernel_rfl) (by kernel_rfl) (by kernel_rfl) (fun _ _ _ h => h) (Or.inl ⟨by rfl, ?_⟩) hHeld ?_
      rotate_left
      · intro w' hSw
        go_simp
        first | done | rfl
      try simp only [Act.put, List.setIfInBounds_toArray, List.set_cons_zero, List.set_cons_succ]
      refine wpAnyH_take (i := 12) (oi := ⟨some 38, _, _, _, _, _⟩) (v := ?_) rfl (by kernel_rfl) (by kernel_rfl) (by kernel_rfl) (fun _ _ _ h => h) (Or.inl ⟨by rfl, ?_⟩) hHeld ?_
      rotate_left
      · intro w' hSw
        go_simp
        first | done | rfl
      try simp only [Act.put, List.setIfInBounds_toArray, List.set_cons_zero, List.set_cons_succ]
      refine wpAnyH_take (i := 13) (oi := ⟨some 39, _, _, _, _, _⟩) (v := ?_) rfl (by kernel_rfl) (by kernel_rfl) (by kernel_rfl) (fun _ _ _ h => h) (Or.inl ⟨by rfl, ?_⟩) hHeld ?_
      rotate_left
      · intro w' hSw
        go_simp
        first | done | rfl
      try simp only [Act.put, List.setIfInBounds_toArray, List.set_cons_zero, List.set_cons_succ]
      refine wpAnyH_take (i := 14) (oi := ⟨some 40, _, _, _, _, _⟩) (v := ?_) rfl (by kernel_rfl) (by kernel_rfl) (by kernel_rfl) (fun _ _ _ h => h) (Or.inl ⟨by rfl, ?_⟩) hHeld ?_
      rotate_left
      · intro w' hSw
        have cv := (HCL.out _ hSw).1
        go_simp
        first | done | rfl
      try simp only [Act.put, List.setIfInBounds_toArray, List.set_cons_zero, List.set_cons_succ]
      refine wpAnyH_take (i := 15) (oi := ⟨some 41, _, _, _, _, _⟩) (v := ?_) rfl (by kernel_rfl) (by kernel_rfl) (by kernel_rfl) (fun _ _ _ h => h) (Or.inl ⟨by rfl, ?_⟩) hHeld ?_
      rotate_left
      · intro w' hSw
        go_simp
        first | done | rfl
      try simp only [Act.put, List.setIfInBounds_toArray, List.set_cons_zero, List.set_cons_succ]
      refine wpAnyH_take (i := 16) (oi := ⟨some 42, _, _, _, _, _⟩) (v := ?_) rfl (by kernel_rfl) (by kernel_rfl) (by kernel_rfl) (fun _ _ _ h => h) (Or.inl ⟨by rfl, ?_⟩) hHeld ?_
      rotate_left
      · intro w' hSw
        go_simp
        first | done | rfl
      try simp only [Act.put, List.setIfInBounds_toArray, List.set_cons_zero, List.set_cons_succ]
      refine wpAnyH_take (i := 17) (oi := ⟨some 43, _, _, _, _, _⟩) (v := ?_) rfl (by kernel_rfl) (by kernel_rfl) (by kernel_rfl) (fun _ _ _ h => h) (Or.inl ⟨by rfl, ?_⟩) hHeld ?_
      rotate_left
      · intro w' hSw
        go_simp
        first | done | rfl
      try simp only [Act.put, List.setIfInBounds_toArray, List.set_cons_zero, List.set_cons_succ]
      refine wpAnyH_take (i := 18) (oi := ⟨some 44, _, _, _, _, _⟩) (v := ?_) rfl (by kernel_rfl) (by kernel_rfl) (by kernel_rfl) (fun _ _ _ h => h) (Or.inl ⟨by rfl, ?_⟩) hHeld ?_
      rotate_left
      · intro w' hSw
        have cv := (HCL.out _ hSw).1
        go_simp
        first | done | rfl
      try simp only [Act.put, List.setIfInBounds_toArray, List.set_cons_zero, List.set_cons_succ]
      refine wpAnyH_take (i := 19) (oi := ⟨some 45, _, _, _, _, _⟩) (v := ?_) rfl (by kernel_rfl) (by kernel_rfl) (by kernel_rfl) (fun _ _ _ h => h) (Or.inl ⟨by rfl, ?_⟩) hHeld ?_
      rotate_left
      · intro w' hSw
        go_simp
        first | done | rfl
      try simp only [Act.put, List.setIfInBounds_toArray, List.set_cons_zero, List.set_cons_succ]
      refine wpAnyH_take (i := 20) (oi := ⟨some 46, _, _, _, _, _⟩) (v := ?_) rfl (by kernel_rfl) (by kernel_rfl) (by kernel_rfl) (fun _ _ _ h => h) (Or.inl ⟨by rfl, ?_⟩) hHeld ?_
      rotate_left
      · intro w' hSw
        have hw3 := HW3.out
        go_simp
        first | done | rfl
      try simp only [Act.put, List.setIfInBounds_toArray, List.set_cons_zero, List.set_cons_succ]
      refine wpAnyH_take (i := 21) (oi := ⟨some 47, _, _, _, _, _⟩) (v := ?_) rfl (by kernel_rfl) (by kernel_rfl) (by kernel_rfl) (fun _ _ _ h => h) (Or.inl ⟨by rfl, ?_⟩) hHeld ?_
      rotate_left
      · intro w' hSw
        obtain ⟨hc3, hc4, hc5⟩ := HC3.out
        go_simp
        first | done | rfl
      try simp only [Act.put, List.setIfInBounds_toArray, List.set_cons_zero, List.set_cons_succ]
      refine wpAnyH_take (i := 22) (oi := ⟨some 48, _, _, _, _, _⟩) (v := ?_) rfl (by kernel_rfl) (by kernel_rfl) (by kernel_rfl) (fun _ _ _ h => h) (Or.inl ⟨by rfl, ?_⟩) hHeld ?_
      rotate_left
      · intro w' hSw
        go_simp
        first | done | rfl
      try simp only [Act.put, List.setIfInBounds_toArray, List.set_cons_zero, List.set_cons_succ]
      refine wpAnyH_take (i := 23) (oi := ⟨some 49, _, _, _, _, _⟩) (v := ?_) rfl (by kernel_rfl) (by kernel_rfl) (by kernel_rfl) (fun _ _ _ h => h) (Or.inl ⟨by rfl, ?_⟩) hHeld ?_
      rotate_left
      · intro w' hSw
        go_simp
        first | done | rfl
      try simp only [Act.put, List.setIfInBounds_toArray, List.set_cons_zero, List.set_cons_succ]
      refine wpAnyH_take (i := 24) (oi := ⟨some 50, _, _, _, _, _⟩) (v := ?_) rfl (by kernel_rfl) (by kernel_rfl) (by kernel_rfl) (fun _ _ _ h => h) (Or.inl ⟨by rfl, ?_⟩) hHeld ?_
      rotate_left
      · intro w' hSw
        go_simp
        first | done | rfl
      try simp only [Act.put, List.setIfInBounds_toArray, List.set_cons_zero, List.set_cons_succ]
      refine wpAnyH_take (i := 25) (oi := ⟨some 51, _, _, _, _, _⟩) (v := ?_) rfl (by kernel_rfl) (by kernel_rfl) (by kernel_rfl) (fun _ _ _ h => h) (Or.inl ⟨by rfl, ?_⟩) hHeld ?_
      rotate_left
      · intro w' hSw
        have cv := (HCL.out _ hSw).1
        go_simp
        first | done | rfl
      try simp only [Act.put, List.setIfInBounds_toArray, List.set_cons_zero, List.set_cons_succ]
      refine wpAnyH_take (i := 26) (oi := ⟨some 52, _, _, _, _, _⟩) (v := ?_) rfl (by kernel_rfl) (by kernel_rfl) (by kernel_rfl) (fun _ _ _ h => h) (Or.inl ⟨by rfl, ?_⟩) hHeld ?_
      rotate_left
      · intro w' hSw
        go_simp
        first | done | rfl
      try simp only [Act.put, List.setIfInBounds_toArray, List.set_cons_zero, List.set_cons_succ]
      refine wpAnyH_take (i := 27) (oi := ⟨some 53, _, _, _, _, _⟩) (v := ?_) rfl (by kernel_rfl) (by kernel_rfl) (by kernel_rfl) (fun _ _ _ h => h) (Or.inl ⟨by rfl, ?_⟩) hHeld ?_
      rotate_left
      · intro w' hSw
        obtain ⟨hc3, hc4, hc5⟩ := HC3.out; obtain ⟨hc6, hc7⟩ := HNE.out
        go_simp
        first | done | rfl
      try simp only [Act.put, List.setIfInBounds_toArray, List.set_cons_zero, List.set_cons_succ]
      refine wpAnyH_ready (rs := [28]) (by kernel_rfl) (by simp) ?_
      refine AllReadyH.cons (o := ⟨some 54, _, _, _, _, _⟩) rfl (fun K hK => ?_) AllReadyH.nil
      go_simp
      have hn3 := Blk.new v1 5 [.int .u8 1, .int .u8 2, .int .u8 3]
      refine hK.out _ _ (hHeld.alloc _) (fun hHeld => ?_)
      clear hK K
      try simp only [Act.put, List.setIfInBounds_toArray, List.set_cons_zero, List.set_cons_succ]
      refine wpAnyH_ready (rs := [29]) (by kernel_rfl) (by simp) ?_
      refine AllReadyH.cons (o := ⟨some 55, _, _, _, _, _⟩) rfl (fun K hK => ?_) AllReadyH.nil
      go_simp
      refine (HQ2.out _ _ _ hHeld (Rd.of_blk hn3 (n := 3) rfl)).mono ?_
      rintro e v3 ⟨rfl, hk3⟩
      have hq3 := hHeld.trans hk3 (fun _ _ h => h)
      refine hK.out _ _ hq3 (fun hHeld => ?_)
      clear hK K
      try simp only [Act.put, List.setIfInBounds_toArray, List.set_cons_zero, List.set_cons_succ]
      refine wpAnyH_take (i := 30) (oi := ⟨some 56, _, _, _, _, _⟩) (v := ?_) rfl (by kernel_rfl) (by kernel_rfl) (by kernel_rfl) (fun _ _ _ h => h) (Or.inl ⟨by rfl, ?_⟩) hHeld ?_
      rotate_left
      · intro w' hSw
        go_simp
        first | done | rfl
      try simp only [Act.put, List.setIfInBounds_toArray, List.set_cons_zero, List.set_cons_succ]
      refine wpAnyH_take (i := 31) (oi := ⟨some 57, _, _, _, _, _⟩) (v := ?_) rfl (by kernel_rfl) (by kernel_rfl) (by kernel_rfl) (fun _ _ _ h => h) (Or.inl ⟨by rfl, ?_⟩) hHeld ?_
      rotate_left
      · intro w' hSw
        go_simp
        first | done | rfl
      try simp only [Act.put, List.setIfInBounds_toArray, List.set_cons_zero, List.set_cons_succ]
      refine wpAnyH_done (by kernel_rfl) ?_ _

      have HQ3 := Lib.hid hq3
      have cv := (HCL.out _ hq3).1
      have HOW3 : Hid (v3.ownsRow 0 5 1 (.slice (some ⟨gk, 0, none⟩) (m + 3) ck) (m + 3) (vb (bs ++ [1, 2, 3]))) := Lib.hid (hq3.own HOW.out (fun _ _ h => h))
      go_wp2_with ((with_reducible show wpList _ _ _ (⟨none, Op.call _, _, _, _, _⟩ :: _) _ _); refine wpList_clear_own _ rfl (.tmp 61) 26 5 (.int .u8 0) rfl Tryd.underlying26 zero_u8 rfl rfl gk m (m + 3) ck _ rfl HOW3.out (by omega) ?_; intro w7 hk7; have HK7 := Lib.hid hk7; clear hk7)
      go_roundw
      case rel => exact ⟨k + 1, by omega, by go_num, Lib.hid (((HKR.out.mono (fun i _ ⟨j, hj, e⟩ => ⟨j, by omega, e⟩)).trans HQ3.out (fun _ _ h => h.elim)).trans HK7.out (fun i _ e => ⟨k, by omega, by rw [← HGE.out]; exact e⟩))⟩
      case measure => simp [intOf]; omega
    · obtain rfl : k = n := by omega
      have hgs : ∀ j, j < k → w1.heap.size ≤ gs j := fun j hj => (HAT.out j _ (List.getElem?_eq_getElem (by have := HNN.out; omega))).2.2
      have HKW : Hid (Keeps (fun _ => False) w wr) := Lib.hid (HK02.out.trans HKR.out (fun i hi he => by obtain ⟨j, hj, rfl⟩ := he; have := hgs j (by omega); have := HK1.out.size; omega))
      clear hgs
      go_wp2
      go_ret
      exact ⟨rfl, HKW.out⟩
end Go.Proofs.YtgblndddcbfdiaaDoor
