/- Texts. -/
import Derived.Test.YtplleficmkfniaaGreatDoorQ31
import Derived.Test.YtplleficmkfniaaGreatDoorQ12
set_option linter.unusedSimpArgs false
set_option maxRecDepth 100000
set_option maxHeartbeats 4000000
namespace Go.Proofs.YtplleficmkfniaaGreatDoor
open Go Go.RowKit Go.Aff Go.Sha Go.Dig
attribute [local go_sem] Oper.semAt_some
theorem eql_in {P : Program} {w : World} {t : TypeId} {xs ys : Array Value} {b : Bool} (h : (binOp .eql t (.agg xs) (.agg ys)).run P w = .ok (.bool b) w) : (Op.equalIn 10000 t (.agg xs) (.agg ys)).run P w = .ok b w := by
 rw [run_eql_struct] at h
 cases hr : (Op.equalIn 10000 t (.agg xs) (.agg ys)).run P w with
 | halt a b' => rw [hr] at h; cases h
 | ok b' w' =>
  rw [hr] at h
  simp only [Result.andThen_ok] at h
  injection h with h1 h2
  injection h1 with h1
  rw [h1, h2]
theorem row32_eql (w : World) (xs ys : List Int) (hx : xs.length = 32) (hy : ys.length = 32) : (binOp .eql 22 (.agg (vb xs).toArray) (.agg (vb ys).toArray)).run Tryz.prog w = .ok (.bool (decide (xs = ys))) w := by
 exact run_eql_row w Tryz.underlying22 Tryz.underlying5 (by kernel_rfl) xs ys hx hy
def RClPost (w : World) (a b : List (List Int)) (e : Ending) (w' : World) : Prop := Keeps (fun _ => False) w w' ∧ ((e = .returned (.tuple #[.int .i64 (-1), .int .i64 (-1)]) ∧ NoClash a b) ∨ ∃ i k : Nat, e = .returned (.tuple #[.int .i64 i, .int .i64 k]) ∧ IsFirst a b i k)
theorem rclash_any (w : World) (A : Option Addr) (n c : Nat) (a : List (List Int)) (ha : a.length = n) (pa : RdPartsO (fun _ => False) w A a) (B : Option Addr) (m d : Nat) (b : List (List Int)) (hb : b.length = m) (pb : RdPartsO (fun _ => False) w B b) (hn : n ≤ 1099511627776) (hm : m ≤ 1099511627776) :
  Calls Tryz.prog 22 #[.slice A n c, .slice B m d] w (RClPost w a b) := by
 have part : ∀ {A : Option Addr} {n : Nat} {a : List (List Int)}, a.length = n → RdPartsO (fun _ => False) w A a → ∀ W, Keeps (fun _ => False) w W → ∀ k, k < n → ∃ g o A' q c' x, A = some ⟨g, o, none⟩ ∧ a[k]? = some x ∧ x.length = q ∧ IsBytes x ∧ q ≤ 140737488351232 ∧ ∀ V, Keeps (fun _ => False) W V → V.cell? ⟨g, o + k, none⟩ = some (.slice A' q c') ∧ Rd V A' q (vb x) := fun hl hp W hW k hk => by
  obtain ⟨vals, hv, _, hparts⟩ := hp
  obtain ⟨g, o, e, _⟩ := hv.2 (by omega)
  obtain ⟨x, hx⟩ : ∃ x, _ = some x := ⟨_, List.getElem?_eq_getElem (show k < _ by rw [hl]; exact hk)⟩
  obtain ⟨A', c', h1, h2, _, h4, _, h6⟩ := hparts k x hx
  refine ⟨g, o, A', x.length, c', x, e, hx, rfl, h4, h6, fun V hV => ?_⟩
  have hk2 := hW.trans hV fun _ _ h => h
  obtain ⟨g2, o2, e2, hc2⟩ := (hv.keep hk2 (no_out _ _)).2 (by omega)
  rw [e] at e2
  injection e2 with e2
  injection e2 with e2 e3
  subst e2 e3
  exact ⟨(hc2 k (by omega)).trans h1, h2.keep hk2 (no_out _ _)⟩
 have HA := H_ (part ha pa)
 have HB := H_ (part hb pb)
 have HLA := H_ (And.intro ha hb)
 clear part pa pb ha hb
 go_enter Tryz.func22, Tryz.ntmps22
 go_upto_block 0 with fail
 go_wp2
 go_loopw [6] (fun t wx => ∃ i : Nat, i ≤ n ∧ t = .int .i64 i ∧ Hid (Keeps (fun _ => False) w wx) ∧ Hid (∀ i' k', i' < i → ¬ ClashAt a b i' k')) (fun t _ => n - (intOf t).toNat)
 case atStart => exact ⟨0, by omega, rfl, H_ (Keeps.refl _ _), H_ fun i' _ h => by omega⟩
 case round =>
  obtain ⟨i, hin, rfl, HK, HI⟩ := hrel
  by_cases hlt : i < n
  ·go_upto_block 2 with fail
   go_wp2
   go_loopw [7] (fun t wx => ∃ k : Nat, k ≤ m ∧ t = .int .i64 k ∧ Hid (Keeps (fun _ => False) w wx) ∧ Hid (∀ k', k' < k → ¬ ClashAt a b i k')) (fun t _ => m - (intOf t).toNat)
   case atStart => exact ⟨0, by omega, rfl, HK, H_ fun k' h => by omega⟩
   case round =>
    obtain ⟨k, hkm, rfl, HK2, HI2⟩ := hrel
    by_cases hlk : k < m
    ·obtain ⟨g, o, A', q, c', x, hAe, hx, hxl, hxb, hxm, hxv⟩ := HA.out wr HK2.out i hlt
     obtain ⟨g2, o2, B', r, d', y, hBe, hy, hyl, hyb, hym, hyv⟩ := HB.out wr HK2.out k hlk
     subst hAe hBe
     have HXV := H_ hxv
     have HYV := H_ hyv
     have HXY := H_ (And.intro hx (And.intro hy (And.intro hxb hyb)))
     have HOX : Hid (∀ W, Keeps (fun _ => False) wr W → Calls Tryz.prog 66 #[.slice A' q c'] W fun e w' => e = .returned (.agg (vb (hsh x)).toArray) ∧ Keeps (fun _ => False) W w') := H_ fun W hW => rof_any W A' q c' x hxl (hxv W hW).2 hxb (by omega)
     have HOY : Hid (∀ W, Keeps (fun _ => False) wr W → Calls Tryz.prog 66 #[.slice B' r d'] W fun e w' => e = .returned (.agg (vb (hsh y)).toArray) ∧ Keeps (fun _ => False) W w') := H_ fun W hW => rof_any W B' r d' y hyl (hyv W hW).2 hyb (by omega)
     have HCX : Hid (∀ W, Keeps (fun _ => False) wr W → (convert 48 9 (.slice A' q c')).run Tryz.prog W = .ok (.string (strOfNums x)) W) := H_ fun W hW => convert_rd W Tryz.underlying48 Tryz.underlying5 Tryz.underlying9 c' (hxv W hW).2
     have HCY : Hid (∀ W, Keeps (fun _ => False) wr W → (convert 48 9 (.slice B' r d')).run Tryz.prog W = .ok (.string (strOfNums y)) W) := H_ fun W hW => convert_rd W Tryz.underlying48 Tryz.underlying5 Tryz.underlying9 d' (hyv W hW).2
     obtain ⟨bq, hbq⟩ : ∃ bq, bq = decide (hsh x = hsh y) := ⟨_, rfl⟩
     have HEQ : Hid (∀ W, (Op.equalIn 10000 22 (.agg (vb (hsh x)).toArray) (.agg (vb (hsh y)).toArray)).run Tryz.prog W = .ok bq W) := H_ fun W => by rw [hbq]; exact eql_in (row32_eql W _ _ (hsh_len x) (hsh_len y))
     have HBQ := H_ hbq
     obtain ⟨XV, hXV⟩ : ∃ XV, XV = vb (hsh x) := ⟨_, rfl⟩
     obtain ⟨YV, hYV⟩ : ∃ YV, YV = vb (hsh y) := ⟨_, rfl⟩
     obtain ⟨sx, hsx⟩ : ∃ sx, sx = strOfNums x := ⟨_, rfl⟩
     obtain ⟨sy, hsy⟩ : ∃ sy, sy = strOfNums y := ⟨_, rfl⟩
     rw [← hXV] at HOX HEQ
     rw [← hYV] at HOY HEQ
     rw [← hsx] at HCX
     rw [← hsy] at HCY
     have HSS := H_ (And.intro hsx hsy)
     clear hx hy hxb hyb hxv hyv hxl hyl hbq hXV hYV hsx hsy
     by_cases hxy : x = y
     ·have hss : (sx.toList == sy.toList) = true := by rw [HSS.out.1, HSS.out.2, hxy]; simp
      have HXE := H_ hxy
      clear hxy
      go_upto_region 7 with fail
      refine wp_region_held_drew (S := (fun V => Keeps (fun _ => False) wr V)) (by kernel_rfl) (Keeps.refl _ _).drew (fun h_ => ?_)
      refine tI 0 20 h_ ?_
      try simp only [pu]
      refine tI 1 21 h_ ?_
      try simp only [pu]
      refine tI 2 22 h_ ?_
      try simp only [pu]
      refine tI 3 23 h_ ?_ (hy := .inl ⟨by rfl, by intro w' hSw; have cv := (HXV.out _ hSw).1; go_simp; first | done | rfl⟩)
      try simp only [pu]
      refine tI 4 24 h_ ?_ (hy := .inl ⟨by rfl, by intro w' hSw; have cv := HCX.out _ hSw; go_simp; first | done | rfl⟩)
      try simp only [pu]
      refine tI 5 25 h_ ?_
      try simp only [pu]
      refine tI 6 26 h_ ?_
      try simp only [pu]
      refine tI 7 27 h_ ?_
      try simp only [pu]
      refine tI 8 28 h_ ?_ (hy := .inl ⟨by rfl, by intro w' hSw; have cv := (HYV.out _ hSw).1; go_simp; first | done | rfl⟩)
      try simp only [pu]
      refine tI 9 29 h_ ?_ (hy := .inl ⟨by rfl, by intro w' hSw; have cv := HCY.out _ hSw; go_simp; first | done | rfl⟩)
      try simp only [pu]
      refine tI 10 30 h_ ?_
      try simp only [pu]
      refine tI 11 31 h_ ?_
      try simp only [pu]
      refine tH (i := 12) (oi := ⟨some 32, _, _, _, _, _⟩) (v := undef) rfl (Or.inr ⟨by rfl, rfl⟩) h_ ?_
      try simp only [pu]
      refine tH (i := 13) (oi := ⟨some 33, _, _, _, _, _⟩) (v := undef) rfl (Or.inr ⟨by rfl, rfl⟩) h_ ?_
      try simp only [pu]
      refine tH (i := 14) (oi := ⟨some 34, _, _, _, _, _⟩) (v := undef) rfl (Or.inr ⟨by rfl, rfl⟩) h_ ?_
      try simp only [pu]
      refine tH (i := 15) (oi := ⟨some 35, _, _, _, _, _⟩) (v := undef) rfl (Or.inr ⟨by rfl, rfl⟩) h_ ?_
      try simp only [pu]
      refine tH (i := 16) (oi := ⟨some 36, _, _, _, _, _⟩) (v := undef) rfl (Or.inr ⟨by rfl, rfl⟩) h_ ?_
      try simp only [pu]
      refine tH (i := 17) (oi := ⟨some 37, _, _, _, _, _⟩) (v := undef) rfl (Or.inr ⟨by rfl, rfl⟩) h_ ?_
      try simp only [pu]
      refine tH (i := 18) (oi := ⟨some 38, _, _, _, _, _⟩) (v := undef) rfl (Or.inr ⟨by rfl, rfl⟩) h_ ?_
      try simp only [pu]
      refine tH (i := 19) (oi := ⟨some 39, _, _, _, _, _⟩) (v := undef) rfl (Or.inr ⟨by rfl, rfl⟩) h_ ?_
      try simp only [pu]
      refine tH (i := 20) (oi := ⟨some 40, _, _, _, _, _⟩) (v := undef) rfl (Or.inr ⟨by rfl, rfl⟩) h_ ?_
      try simp only [pu]
      refine tH (i := 21) (oi := ⟨some 41, _, _, _, _, _⟩) (v := undef) rfl (Or.inr ⟨by rfl, rfl⟩) h_ ?_
      try simp only [pu]
      refine tH (i := 22) (oi := ⟨some 42, _, _, _, _, _⟩) (v := undef) rfl (Or.inr ⟨by rfl, rfl⟩) h_ ?_
      try simp only [pu]
      refine tI 23 43 h_ ?_
      try simp only [pu]
      refine wpAnyH_done (by kernel_rfl) ?_ _
      have HK3 := H_ (HK2.out.trans h_ fun _ _ h => h)
      clear h_
      go_wp2
      go_roundw
      case rel => exact ⟨k + 1, by omega, by go_num, HK3, H_ fun k' h' hc => by
       rcases Nat.lt_or_ge k' k with h1 | h1
       ·exact HI2.out k' h1 hc
       ·obtain rfl : k' = k := by omega
        obtain ⟨x', y', e1, e2, e3, _⟩ := hc
        rw [HXY.out.1] at e1
        rw [HXY.out.2.1] at e2
        injection e1 with e1
        injection e2 with e2
        exact e3 (by rw [← e1, ← e2]; exact HXE.out)⟩
      case measure => simp [intOf]; omega
     ·have hss : (sx.toList == sy.toList) = false := by
       rw [HSS.out.1, HSS.out.2, beq_eq_false_iff_ne]
       exact fun he => hxy (str_inj HXY.out.2.2.1 HXY.out.2.2.2 (toList_inj he))
      have HXE := H_ hxy
      clear hxy
      go_upto_region 7 with fail
      refine wp_region_held_drew (S := (fun V => Keeps (fun _ => False) wr V)) (by kernel_rfl) (Keeps.refl _ _).drew (fun h_ => ?_)
      refine tI 0 20 h_ ?_
      try simp only [pu]
      refine tI 1 21 h_ ?_
      try simp only [pu]
      refine tI 2 22 h_ ?_
      try simp only [pu]
      refine tI 3 23 h_ ?_ (hy := .inl ⟨by rfl, by intro w' hSw; have cv := (HXV.out _ hSw).1; go_simp; first | done | rfl⟩)
      try simp only [pu]
      refine tI 4 24 h_ ?_ (hy := .inl ⟨by rfl, by intro w' hSw; have cv := HCX.out _ hSw; go_simp; first | done | rfl⟩)
      try simp only [pu]
      refine tI 5 25 h_ ?_
      try simp only [pu]
      refine tI 6 26 h_ ?_
      try simp only [pu]
      refine tI 7 27 h_ ?_
      try simp only [pu]
      refine tI 8 28 h_ ?_ (hy := .inl ⟨by rfl, by intro w' hSw; have cv := (HYV.out _ hSw).1; go_simp; first | done | rfl⟩)
      try simp only [pu]
      refine tI 9 29 h_ ?_ (hy := .inl ⟨by rfl, by intro w' hSw; have cv := HCY.out _ hSw; go_simp; first | done | rfl⟩)
      try simp only [pu]
      refine tI 10 30 h_ ?_
      try simp only [pu]
      refine tI 11 31 h_ ?_
      try simp only [pu]
      refine tI 12 32 h_ ?_
      try simp only [pu]
      refine tI 13 33 h_ ?_
      try simp only [pu]
      refine tI 14 34 h_ ?_
      try simp only [pu]
      refine tI 15 35 h_ ?_ (hy := .inl ⟨by rfl, by intro w' hSw; have cv := (HXV.out _ hSw).1; go_simp; first | done | rfl⟩)
      try simp only [pu]
      refine tI 17 37 h_ ?_
      try simp only [pu]
      refine tI 18 38 h_ ?_
      try simp only [pu]
      refine tI 19 39 h_ ?_
      try simp only [pu]
      refine tI 20 40 h_ ?_ (hy := .inl ⟨by rfl, by intro w' hSw; have cv := (HYV.out _ hSw).1; go_simp; first | done | rfl⟩)
      try simp only [pu]
      refine rH 16 (some 36) fun K hK => ?_
      go_simp
      refine (HOX.out _ h_).mono ?_
      rintro e w6 ⟨rfl, hk6⟩
      have hS6 := h_.trans hk6 (fun _ _ h => h)
      refine hK.out _ _ hS6 (fun h_ => ?_)
      clear hK K
      try simp only [pu]
      refine rH 21 (some 41) fun K hK => ?_
      go_simp
      refine (HOY.out _ h_).mono ?_
      rintro e w7 ⟨rfl, hk7⟩
      have hS7 := h_.trans hk7 (fun _ _ h => h)
      refine hK.out _ _ hS7 (fun h_ => ?_)
      clear hK K
      try simp only [pu]
      refine tI 22 42 h_ ?_ (hy := .inl ⟨by rfl, by intro w' hSw; have cv := HEQ.out w'; go_simp; first | done | rfl⟩)
      try simp only [pu]
      refine tI 23 43 h_ ?_
      try simp only [pu]
      refine wpAnyH_done (by kernel_rfl) ?_ _
      have HK3 := H_ (HK2.out.trans h_ fun _ _ h => h)
      cases bq with
      | true =>
       go_wp2
       go_ret2
       exact ⟨HK3.out, .inr ⟨i, k, rfl, ⟨⟨x, y, HXY.out.1, HXY.out.2.1, HXE.out, of_decide_eq_true HBQ.out.symm⟩, HI.out, HI2.out⟩⟩⟩
      | false =>
       go_wp2
       go_roundw
       case rel => exact ⟨k + 1, by omega, by go_num, HK3, H_ fun k' h' hc => by
        rcases Nat.lt_or_ge k' k with h1 | h1
        ·exact HI2.out k' h1 hc
        ·obtain rfl : k' = k := by omega
         obtain ⟨x', y', e1, e2, _, e4⟩ := hc
         rw [HXY.out.1] at e1
         rw [HXY.out.2.1] at e2
         injection e1 with e1
         injection e2 with e2
         subst e1 e2
         exact of_decide_eq_false HBQ.out.symm e4⟩
       case measure => simp [intOf]; omega
    ·obtain rfl : k = m := by omega
     go_wp2
     go_roundw
     case rel => exact ⟨i + 1, by omega, by go_num, HK2, H_ fun i' k' h' hc => by
      rcases Nat.lt_or_ge i' i with h1 | h1
      ·exact HI.out i' k' h1 hc
      ·obtain rfl : i' = i := by omega
       exact HI2.out k' (by rw [← HLA.out.2]; exact hc.lt.2) hc⟩
     case measure => simp [intOf]; omega
  ·obtain rfl : i = n := by omega
   go_wp2
   go_ret2
   exact ⟨HK.out, .inl ⟨rfl, no_clash fun i' h k' => HI.out i' k' (by rw [← HLA.out.1]; exact h)⟩⟩
end Go.Proofs.YtplleficmkfniaaGreatDoor
