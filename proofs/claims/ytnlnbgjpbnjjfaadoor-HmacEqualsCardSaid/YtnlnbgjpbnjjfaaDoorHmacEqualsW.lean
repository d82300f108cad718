/-
  WALKS: the statement HmacEquals.
-/
import Derived.Test.YtnlnbgjpbnjjfaaDoorWakesW
import Derived.Test.YtnlnbgjpbnjjfaaDoorEqualW
import Derived.Test.YtnlnbgjpbnjjfaaDoorQLast
set_option linter.unusedSimpArgs false
namespace Go.Proofs.YtnlnbgjpbnjjfaaDoor
open Go Go.RowKit Go.Sha Go.Aff Go.Mac

theorem str_told {xs ys : List Int} (hx : IsBytes xs) (hy : IsBytes ys) : decide (xs = ys) = ((strOfNums xs).toList == (strOfNums ys).toList) := by
  rw [Bool.eq_iff_iff]
  simp only [beq_iff_eq, decide_eq_true_iff]
  exact ⟨fun h => by rw [h], fun h => str_inj hx hy (toList_inj h)⟩

set_option maxHeartbeats 4000000 in
set_option maxRecDepth 100000 in
theorem hequals_any (w : World) (hG : Glob w) (A B : Option Addr) (n c m d : Nat) (xs ys : List Int) (hn : xs.length = n) (hx : Rd w A n (vb xs)) (bx : IsBytes xs) (hm : n ≤ 140737488351232)
    (hn' : ys.length = m) (hy : Rd w B m (vb ys)) (by' : IsBytes ys) (hm' : m ≤ 140737488351232) :
    Calls Tryd.prog 5 #[.slice A n c, .slice B m d] w fun e w' => e = .returned (.bool true) ∧ Keeps (fun _ => False) w w' := by
  have HL1 : Hid (Calls Tryd.prog 12 #[.slice A n c] w fun e w' => ∃ g cap, e = .returned (.slice (some ⟨g, 0, none⟩) n cap) ∧ Lent w w' g n cap xs) := Lib.hid (lent_any w A n c xs hn hx hm)
  have HL2 : Hid (∀ W, Keeps (fun _ => False) w W → Calls Tryd.prog 12 #[.slice B m d] W fun e w' => ∃ g cap, e = .returned (.slice (some ⟨g, 0, none⟩) m cap) ∧ Lent W w' g m cap ys) := Lib.hid fun W hk => lent_any W B m d ys hn' (hy.keep hk (no_out _ _)) hm'
  have HALL : Hid (∀ (w1 w2 : World) (g1 c1 g2 c2 : Nat), Lent w w1 g1 n c1 xs → Lent w1 w2 g2 m c2 ys → ∀ W, Keeps (fun _ => False) w2 W →
      (Calls Tryd.prog 22 #[.slice (some ⟨g1, 0, none⟩) n c1, .slice (some ⟨g2, 0, none⟩) m c2] W fun e w' => e = .returned (.bool ((strOfNums xs).toList == (strOfNums ys).toList)) ∧ Keeps (fun _ => False) W w') ∧
      (Calls Tryd.prog 12 #[.slice A n c] W fun e w' => ∃ g cap, e = .returned (.slice (some ⟨g, 0, none⟩) n cap) ∧ Lent W w' g n cap xs) ∧
      (∀ (W0 W' : World) (g c' : Nat), Lent W0 W g n c' xs → Keeps (fun _ => False) W W' → Calls Tryd.prog 22 #[.slice (some ⟨g1, 0, none⟩) n c1, .slice (some ⟨g, 0, none⟩) n c'] W' fun e w' => e = .returned (.bool true) ∧ Keeps (fun _ => False) W' w') ∧
      (Calls Tryd.prog 22 #[.slice (some ⟨g2, 0, none⟩) m c2, .slice (some ⟨g2, 0, none⟩) m c2] W fun e w' => e = .returned (.bool true) ∧ Keeps (fun _ => False) W w') ∧
      (Calls Tryd.prog 15 #[.slice (some ⟨g1, 0, none⟩) n c1, .slice A n c] W fun e w' => e = .returned (.bool true) ∧ Keeps (fun _ => False) W w') ∧
      (Calls Tryd.prog 15 #[.slice (some ⟨g2, 0, none⟩) m c2, .slice B m d] W fun e w' => e = .returned (.bool true) ∧ Keeps (fun _ => False) W w') ∧
      (Calls Tryd.prog 16 #[] W fun e w' => e = .returned (.bool true) ∧ Keeps (fun _ => False) W w') ∧
      (convert 22 9 (.slice A n c)).run Tryd.prog W = .ok (.string (strOfNums xs)) W ∧ (convert 22 9 (.slice B m d)).run Tryd.prog W = .ok (.string (strOfNums ys)) W) := Lib.hid fun w1 w2 g1 c1 g2 c2 h1 h2 W hk => by
    have l1 := (h1.keep h2.2.1).keep hk
    have l2 := h2.keep hk
    have hwW : Keeps (fun _ => False) w W := (h1.2.1.trans h2.2.1 (fun _ _ h => h)).trans hk (fun _ _ h => h)
    have hxW := hx.keep hwW (no_out _ _)
    have hyW := hy.keep hwW (no_out _ _)
    have same : ∀ {e w'}, e = Ending.returned (.bool true) ∧ w' = W → e = Ending.returned (.bool true) ∧ Keeps (fun _ => False) W w' := fun ⟨a, b⟩ => ⟨a, by rw [b]; exact Keeps.refl _ _⟩
    refine ⟨?_, lent_any W A n c xs hn hxW hm, fun W0 W' g c' hl hk' => ?_, ?_, ?_, ?_, wakes_any W (hG.keep hwW (fun _ h => h.elim)), ?_, ?_⟩
    · rw [← str_told bx by']; exact hequal_any W _ _ n c1 m c2 xs ys hn hn' (l1.rd hn) (l2.rd hn') bx by' hm hm'
    · have := hequal_any W' _ _ n c1 n c' xs xs hn hn ((l1.keep hk').rd hn) ((hl.keep hk').rd hn) bx bx hm hm
      simpa using this
    · have := hequal_any W _ _ m c2 m c2 ys ys hn' hn' (l2.rd hn') (l2.rd hn') by' by' hm' hm'
      simpa using this
    · exact (kept_any W w g1 n c1 A c xs hn l1 hxW hm).mono fun e w' h => same h
    · exact (kept_any W w1 g2 m c2 B d ys hn' l2 hyW hm').mono fun e w' h => same h
    · exact convert_rd W Tryd.underlying22 Tryd.underlying5 Tryd.underlying9 c hxW
    · exact convert_rd W Tryd.underlying22 Tryd.underlying5 Tryd.underlying9 d hyW
  obtain ⟨sx, hsx⟩ : ∃ s, s = strOfNums xs := ⟨_, rfl⟩
  obtain ⟨sy, hsy⟩ : ∃ s, s = strOfNums ys := ⟨_, rfl⟩
  rw [← hsx, ← hsy] at HALL
  clear hsx hsy hx hy bx by' hn hn' hG
  go_enter Tryd.func5, Tryd.ntmps5
  have tok1 : True := trivial
  go_wp2_with (first
    | (go_at_call 12; have _t := tok1; clear tok1; refine HL1.out.mono ?_; rintro e w1 ⟨g1, c1, rfl, hl1⟩; have HX1 := Lib.hid hl1; clear hl1)
    | (go_at_call 12; refine (HL2.out _ HX1.out.2.1).mono ?_; rintro e w2 ⟨g2, c2, rfl, hl2⟩; have HX2 := Lib.hid hl2; clear hl2))
  have hall := HALL.out w1 w2 g1 c1 g2 c2 HX1.out HX2.out
  have HE1 := Lib.hid (fun W hk => (hall W hk).1)
  have HLE := Lib.hid (fun W hk => (hall W hk).2.1)
  have HE2 : Hid (∀ (W0 W W' : World) (g c' : Nat), Keeps (fun _ => False) w2 W → Lent W0 W g n c' xs → Keeps (fun _ => False) W W' → _) := Lib.hid (fun W0 W W' g c' hk hl hk' => (hall W hk).2.2.1 W0 W' g c' hl hk')
  have HE3 := Lib.hid (fun W hk => (hall W hk).2.2.2.1)
  have HK1 := Lib.hid (fun W hk => (hall W hk).2.2.2.2.1)
  have HK2 := Lib.hid (fun W hk => (hall W hk).2.2.2.2.2.1)
  have HWK := Lib.hid (fun W hk => (hall W hk).2.2.2.2.2.2.1)
  have HCX := Lib.hid (fun W hk => (hall W hk).2.2.2.2.2.2.2.1)
  have HCY := Lib.hid (fun W hk => (hall W hk).2.2.2.2.2.2.2.2)
  clear hall HALL HL1 HL2
  refine wp_region_last (S := Keeps (fun _ => False) w2) 33 (by kernel_rfl) ((Keeps.refl (fun _ => False) _).drew) (fun hHeld => ?_)
  refine wpAnyZ_take (i := 0) (oi := ⟨some 11, _, _, _, _, _⟩) (v := ?_) rfl (by kernel_rfl) (by kernel_rfl) (by kernel_rfl) (by kernel_rfl) (fun _ _ _ h => h) (Or.inl ⟨by rfl, ?_⟩) hHeld ?_
  rotate_left
  · intro w' hSw
    go_simp
    first | done | rfl
  try simp only [Act.put, List.setIfInBounds_toArray, List.set_cons_zero, List.set_cons_succ]
  refine wpAnyZ_take (i := 1) (oi := ⟨some 12, _, _, _, _, _⟩) (v := ?_) rfl (by kernel_rfl) (by kernel_rfl) (by kernel_rfl) (by kernel_rfl) (fun _ _ _ h => h) (Or.inl ⟨by rfl, ?_⟩) hHeld ?_
  rotate_left
  · intro w' hSw
    go_simp
    first | done | rfl
  try simp only [Act.put, List.setIfInBounds_toArray, List.set_cons_zero, List.set_cons_succ]
  refine wpAnyZ_take (i := 3) (oi := ⟨some 14, _, _, _, _, _⟩) (v := ?_) rfl (by kernel_rfl) (by kernel_rfl) (by kernel_rfl) (by kernel_rfl) (fun _ _ _ h => h) (Or.inl ⟨by rfl, ?_⟩) hHeld ?_
  rotate_left
  · intro w' hSw
    go_simp
    first | done | rfl
  try simp only [Act.put, List.setIfInBounds_toArray, List.set_cons_zero, List.set_cons_succ]
  refine wpAnyZ_take (i := 4) (oi := ⟨some 15, _, _, _, _, _⟩) (v := ?_) rfl (by kernel_rfl) (by kernel_rfl) (by kernel_rfl) (by kernel_rfl) (fun _ _ _ h => h) (Or.inl ⟨by rfl, ?_⟩) hHeld ?_
  rotate_left
  · intro w' hSw
    have cv := HCX.out _ hSw
    go_simp
    first | done | rfl
  try simp only [Act.put, List.setIfInBounds_toArray, List.set_cons_zero, List.set_cons_succ]
  refine wpAnyZ_take (i := 5) (oi := ⟨some 16, _, _, _, _, _⟩) (v := ?_) rfl (by kernel_rfl) (by kernel_rfl) (by kernel_rfl) (by kernel_rfl) (fun _ _ _ h => h) (Or.inl ⟨by rfl, ?_⟩) hHeld ?_
  rotate_left
  · intro w' hSw
    go_simp
    first | done | rfl
  try simp only [Act.put, List.setIfInBounds_toArray, List.set_cons_zero, List.set_cons_succ]
  refine wpAnyZ_take (i := 6) (oi := ⟨some 17, _, _, _, _, _⟩) (v := ?_) rfl (by kernel_rfl) (by kernel_rfl) (by kernel_rfl) (by kernel_rfl) (fun _ _ _ h => h) (Or.inl ⟨by rfl, ?_⟩) hHeld ?_
  rotate_left
  · intro w' hSw
    have cv := HCY.out _ hSw
    go_simp
    first | done | rfl
  try simp only [Act.put, List.setIfInBounds_toArray, List.set_cons_zero, List.set_cons_succ]
  refine wpAnyZ_take (i := 7) (oi := ⟨some 18, _, _, _, _, _⟩) (v := ?_) rfl (by kernel_rfl) (by kernel_rfl) (by kernel_rfl) (by kernel_rfl) (fun _ _ _ h => h) (Or.inl ⟨by rfl, ?_⟩) hHeld ?_
  rotate_left
  · intro w' hSw
    go_simp
    first | done | rfl
  try simp only [Act.put, List.setIfInBounds_toArray, List.set_cons_zero, List.set_cons_succ]
  refine wpAnyZ_step (i := 2) (o := ⟨some 13, _, _, _, _, _⟩) (by kernel_rfl) rfl (fun K hK => ?_)
  go_simp
  refine (HE1.out _ hHeld).mono ?_
  rintro e w3 ⟨rfl, hk3⟩
  have hq3 := hHeld.trans hk3 (fun _ _ h => h)
  show K _ w3
  refine hK.out _ _ hq3 (fun hHeld => ?_)
  clear hK K
  try simp only [Act.put, List.setIfInBounds_toArray, List.set_cons_zero, List.set_cons_succ]
  refine wpAnyZ_take (i := 8) (oi := ⟨some 19, _, _, _, _, _⟩) (v := ?_) rfl (by kernel_rfl) (by kernel_rfl) (by kernel_rfl) (by kernel_rfl) (fun _ _ _ h => h) (Or.inl ⟨by rfl, ?_⟩) hHeld ?_
  rotate_left
  · intro w' hSw
    go_simp
    first | done | rfl
  try simp only [Act.put, List.setIfInBounds_toArray, List.set_cons_zero, List.set_cons_succ]
  refine wpAnyZ_take (i := 9) (oi := ⟨some 20, _, _, _, _, _⟩) (v := ?_) rfl (by kernel_rfl) (by kernel_rfl) (by kernel_rfl) (by kernel_rfl) (fun _ _ _ h => h) (Or.inl ⟨by rfl, ?_⟩) hHeld ?_
  rotate_left
  · intro w' hSw
    go_simp
    first | done | rfl
  try simp only [Act.put, List.setIfInBounds_toArray, List.set_cons_zero, List.set_cons_succ]
  refine wpAnyZ_take (i := 10) (oi := ⟨some 21, _, _, _, _, _⟩) (v := ?_) rfl (by kernel_rfl) (by kernel_rfl) (by kernel_rfl) (by kernel_rfl) (fun _ _ _ h => h) (Or.inl ⟨by rfl, ?_⟩) hHeld ?_
  rotate_left
  · intro w' hSw
    go_simp
    first | done | rfl
  try simp only [Act.put, List.setIfInBounds_toArray, List.set_cons_zero, List.set_cons_succ]
  refine wpAnyZ_take (i := 11) (oi := ⟨some 22, _, _, _, _, _⟩) (v := ?_) rfl (by kernel_rfl) (by kernel_rfl) (by kernel_rfl) (by kernel_rfl) (fun _ _ _ h => h) (Or.inl ⟨by rfl, ?_⟩) hHeld ?_
  rotate_left
  · intro w' hSw
    go_simp
    first | done | rfl
  try simp only [Act.put, List.setIfInBounds_toArray, List.set_cons_zero, List.set_cons_succ]
  refine wpAnyZ_step (i := 12) (o := ⟨some 23, _, _, _, _, _⟩) (by kernel_rfl) rfl (fun K hK => ?_)
  go_simp
  refine (HLE.out _ hHeld).mono ?_
  rintro e w4 ⟨g4, c4, rfl, hl4⟩
  have hk4 := hl4.2.1
  have hq4 := hHeld.trans hk4 (fun _ _ h => h)
  have HL4 := Lib.hid hl4
  clear hl4
  show K _ w4
  refine hK.out _ _ hq4 (fun hHeld => ?_)
  clear hK K
  try simp only [Act.put, List.setIfInBounds_toArray, List.set_cons_zero, List.set_cons_succ]
  refine wpAnyZ_step (i := 13) (o := ⟨some 24, _, _, _, _, _⟩) (by kernel_rfl) rfl (fun K hK => ?_)
  go_simp
  refine (HE2.out _ _ _ _ _ hHeld HL4.out (Keeps.refl _ _)).mono ?_
  rintro e w5 ⟨rfl, hk5⟩
  have hq5 := hHeld.trans hk5 (fun _ _ h => h)
  show K _ w5
  refine hK.out _ _ hq5 (fun hHeld => ?_)
  clear hK K
  try simp only [Act.put, List.setIfInBounds_toArray, List.set_cons_zero, List.set_cons_succ]
  refine wpAnyZ_take (i := 14) (oi := ⟨some 25, _, _, _, _, _⟩) (v := ?_) rfl (by kernel_rfl) (by kernel_rfl) (by kernel_rfl) (by kernel_rfl) (fun _ _ _ h => h) (Or.inl ⟨by rfl, ?_⟩) hHeld ?_
  rotate_left
  · intro w' hSw
    go_simp
    first | done | rfl
  try simp only [Act.put, List.setIfInBounds_toArray, List.set_cons_zero, List.set_cons_succ]
  refine wpAnyZ_take (i := 15) (oi := ⟨some 26, _, _, _, _, _⟩) (v := ?_) rfl (by kernel_rfl) (by kernel_rfl) (by kernel_rfl) (by kernel_rfl) (fun _ _ _ h => h) (Or.inl ⟨by rfl, ?_⟩) hHeld ?_
  rotate_left
  · intro w' hSw
    go_simp
    first | done | rfl
  try simp only [Act.put, List.setIfInBounds_toArray, List.set_cons_zero, List.set_cons_succ]
  refine wpAnyZ_take (i := 16) (oi := ⟨some 27, _, _, _, _, _⟩) (v := ?_) rfl (by kernel_rfl) (by kernel_rfl) (by kernel_rfl) (by kernel_rfl) (fun _ _ _ h => h) (Or.inl ⟨by rfl, ?_⟩) hHeld ?_
  rotate_left
  · intro w' hSw
    go_simp
    first | done | rfl
  try simp only [Act.put, List.setIfInBounds_toArray, List.set_cons_zero, List.set_cons_succ]
  refine wpAnyZ_take (i := 17) (oi := ⟨some 28, _, _, _, _, _⟩) (v := ?_) rfl (by kernel_rfl) (by kernel_rfl) (by kernel_rfl) (by kernel_rfl) (fun _ _ _ h => h) (Or.inl ⟨by rfl, ?_⟩) hHeld ?_
  rotate_left
  · intro w' hSw
    go_simp
    first | done | rfl
  try simp only [Act.put, List.setIfInBounds_toArray, List.set_cons_zero, List.set_cons_succ]
  refine wpAnyZ_step (i := 18) (o := ⟨some 29, _, _, _, _, _⟩) (by kernel_rfl) rfl (fun K hK => ?_)
  go_simp
  refine (HE3.out _ hHeld).mono ?_
  rintro e w6 ⟨rfl, hk6⟩
  have hq6 := hHeld.trans hk6 (fun _ _ h => h)
  show K _ w6
  refine hK.out _ _ hq6 (fun hHeld => ?_)
  clear hK K
  try simp only [Act.put, List.setIfInBounds_toArray, List.set_cons_zero, List.set_cons_succ]
  refine wpAnyZ_take (i := 19) (oi := ⟨some 30, _, _, _, _, _⟩) (v := ?_) rfl (by kernel_rfl) (by kernel_rfl) (by kernel_rfl) (by kernel_rfl) (fun _ _ _ h => h) (Or.inl ⟨by rfl, ?_⟩) hHeld ?_
  rotate_left
  · intro w' hSw
    go_simp
    first | done | rfl
  try simp only [Act.put, List.setIfInBounds_toArray, List.set_cons_zero, List.set_cons_succ]
  refine wpAnyZ_take (i := 20) (oi := ⟨some 31, _, _, _, _, _⟩) (v := ?_) rfl (by kernel_rfl) (by kernel_rfl) (by kernel_rfl) (by kernel_rfl) (fun _ _ _ h => h) (Or.inl ⟨by rfl, ?_⟩) hHeld ?_
  rotate_left
  · intro w' hSw
    go_simp
    first | done | rfl
  try simp only [Act.put, List.setIfInBounds_toArray, List.set_cons_zero, List.set_cons_succ]
  refine wpAnyZ_take (i := 21) (oi := ⟨some 32, _, _, _, _, _⟩) (v := ?_) rfl (by kernel_rfl) (by kernel_rfl) (by kernel_rfl) (by kernel_rfl) (fun _ _ _ h => h) (Or.inl ⟨by rfl, ?_⟩) hHeld ?_
  rotate_left
  · intro w' hSw
    go_simp
    first | done | rfl
  try simp only [Act.put, List.setIfInBounds_toArray, List.set_cons_zero, List.set_cons_succ]
  refine wpAnyZ_take (i := 22) (oi := ⟨some 33, _, _, _, _, _⟩) (v := ?_) rfl (by kernel_rfl) (by kernel_rfl) (by kernel_rfl) (by kernel_rfl) (fun _ _ _ h => h) (Or.inl ⟨by rfl, ?_⟩) hHeld ?_
  rotate_left
  · intro w' hSw
    go_simp
    first | done | rfl
  try simp only [Act.put, List.setIfInBounds_toArray, List.set_cons_zero, List.set_cons_succ]
  refine wpAnyZ_step (i := 23) (o := ⟨some 34, _, _, _, _, _⟩) (by kernel_rfl) rfl (fun K hK => ?_)
  go_simp
  refine (HK1.out _ hHeld).mono ?_
  rintro e w7 ⟨rfl, hk7⟩
  have hq7 := hHeld.trans hk7 (fun _ _ h => h)
  show K _ w7
  refine hK.out _ _ hq7 (fun hHeld => ?_)
  clear hK K
  try simp only [Act.put, List.setIfInBounds_toArray, List.set_cons_zero, List.set_cons_succ]
  refine wpAnyZ_take (i := 24) (oi := ⟨some 35, _, _, _, _, _⟩) (v := ?_) rfl (by kernel_rfl) (by kernel_rfl) (by kernel_rfl) (by kernel_rfl) (fun _ _ _ h => h) (Or.inl ⟨by rfl, ?_⟩) hHeld ?_
  rotate_left
  · intro w' hSw
    go_simp
    first | done | rfl
  try simp only [Act.put, List.setIfInBounds_toArray, List.set_cons_zero, List.set_cons_succ]
  refine wpAnyZ_take (i := 25) (oi := ⟨some 36, _, _, _, _, _⟩) (v := ?_) rfl (by kernel_rfl) (by kernel_rfl) (by kernel_rfl) (by kernel_rfl) (fun _ _ _ h => h) (Or.inl ⟨by rfl, ?_⟩) hHeld ?_
  rotate_left
  · intro w' hSw
    go_simp
    first | done | rfl
  try simp only [Act.put, List.setIfInBounds_toArray, List.set_cons_zero, List.set_cons_succ]
  refine wpAnyZ_take (i := 26) (oi := ⟨some 37, _, _, _, _, _⟩) (v := ?_) rfl (by kernel_rfl) (by kernel_rfl) (by kernel_rfl) (by kernel_rfl) (fun _ _ _ h => h) (Or.inl ⟨by rfl, ?_⟩) hHeld ?_
  rotate_left
  · intro w' hSw
    go_simp
    first | done | rfl
  try simp only [Act.put, List.setIfInBounds_toArray, List.set_cons_zero, List.set_cons_succ]
  refine wpAnyZ_take (i := 27) (oi := ⟨some 38, _, _, _, _, _⟩) (v := ?_) rfl (by kernel_rfl) (by kernel_rfl) (by kernel_rfl) (by kernel_rfl) (fun _ _ _ h => h) (Or.inl ⟨by rfl, ?_⟩) hHeld ?_
  rotate_left
  · intro w' hSw
    go_simp
    first | done | rfl
  try simp only [Act.put, List.setIfInBounds_toArray, List.set_cons_zero, List.set_cons_succ]
  refine wpAnyZ_step (i := 28) (o := ⟨some 39, _, _, _, _, _⟩) (by kernel_rfl) rfl (fun K hK => ?_)
  go_simp
  refine (HK2.out _ hHeld).mono ?_
  rintro e w8 ⟨rfl, hk8⟩
  have hq8 := hHeld.trans hk8 (fun _ _ h => h)
  show K _ w8
  refine hK.out _ _ hq8 (fun hHeld => ?_)
  clear hK K
  try simp only [Act.put, List.setIfInBounds_toArray, List.set_cons_zero, List.set_cons_succ]
  refine wpAnyZ_take (i := 29) (oi := ⟨some 40, _, _, _, _, _⟩) (v := ?_) rfl (by kernel_rfl) (by kernel_rfl) (by kernel_rfl) (by kernel_rfl) (fun _ _ _ h => h) (Or.inl ⟨by rfl, ?_⟩) hHeld ?_
  rotate_left
  · intro w' hSw
    go_simp
    first | done | rfl
  try simp only [Act.put, List.setIfInBounds_toArray, List.set_cons_zero, List.set_cons_succ]
  refine wpAnyZ_take (i := 30) (oi := ⟨some 41, _, _, _, _, _⟩) (v := ?_) rfl (by kernel_rfl) (by kernel_rfl) (by kernel_rfl) (by kernel_rfl) (fun _ _ _ h => h) (Or.inl ⟨by rfl, ?_⟩) hHeld ?_
  rotate_left
  · intro w' hSw
    go_simp
    first | done | rfl
  try simp only [Act.put, List.setIfInBounds_toArray, List.set_cons_zero, List.set_cons_succ]
  refine wpAnyZ_step (i := 31) (o := ⟨some 42, _, _, _, _, _⟩) (by kernel_rfl) rfl (fun K hK => ?_)
  go_simp
  refine (HWK.out _ hHeld).mono ?_
  rintro e w9 ⟨rfl, hk9⟩
  have hq9 := hHeld.trans hk9 (fun _ _ h => h)
  show K _ w9
  refine hK.out _ _ hq9 (fun hHeld => ?_)
  clear hK K
  try simp only [Act.put, List.setIfInBounds_toArray, List.set_cons_zero, List.set_cons_succ]
  refine wpAnyZ_take (i := 32) (oi := ⟨some 43, _, _, _, _, _⟩) (v := ?_) rfl (by kernel_rfl) (by kernel_rfl) (by kernel_rfl) (by kernel_rfl) (fun _ _ _ h => h) (Or.inl ⟨by rfl, ?_⟩) hHeld ?_
  rotate_left
  · intro w' hSw
    go_simp
    first | done | rfl
  try simp only [Act.put, List.setIfInBounds_toArray, List.set_cons_zero, List.set_cons_succ]
  refine wpAnyZ_last (o := ⟨some 4, _, _, _, _, _⟩) (by kernel_rfl) (by kernel_rfl) rfl (fun K hK => ?_)
  go_simp
  refine hK.out _ _ ?_
  clear hK K
  try simp only [Act.put, List.setIfInBounds_toArray, List.set_cons_zero, List.set_cons_succ]
  have HK : Hid (Keeps (fun _ => False) w w9) := Lib.hid ((HX1.out.2.1.trans HX2.out.2.1 (fun _ _ h => h)).trans hHeld (fun _ _ h => h))
  go_wp2
  go_ret
  exact ⟨rfl, HK.out⟩
end Go.Proofs.YtnlnbgjpbnjjfaaDoor
