/-
  WALKS: the statement HmacRows.
-/
import Derived.Test.YtnlnbgjpbnjjfaaDoorRowsW
import Derived.Test.YtnlnbgjpbnjjfaaDoorHmacExpandsW
import Derived.Test.YtnlnbgjpbnjjfaaDoorHmacSumsW
set_option linter.unusedSimpArgs false
namespace Go.Proofs.YtnlnbgjpbnjjfaaDoor
open Go Go.RowKit Go.Sha Go.Aff Go.Mac

theorem tab_on {w W : World} {P : Program} {nm : String} {k : IntKind} {zs : List Int} (h : Lib.TabBelow P w.heap.size w nm k zs) (hk : Keeps (fun _ => False) w W) : Lib.TabBelow P W.heap.size W nm k zs := fun w' hb =>
  h w' ((hk.trans (G := fun i => W.heap.size ≤ i) (F := fun _ => False) (Keeps.below hb) (fun i hi hB => by have := hk.size; omega)).to_below (fun _ _ h => h))

set_option maxHeartbeats 4000000 in
set_option maxRecDepth 100000 in
theorem hrows_any (w : World) (hG : Glob w) (hT : Lib.TabBelow Tryd.prog w.heap.size w "internal/strconv.uint64pow10" .u64 Lib.pow10Tab) (B : Option Addr) (m d : Nat) (pss : List (List Int))
    (hnn : pss.length = m) (hr : RdPartsO (fun _ => False) w B pss) (hb : ∀ bs ∈ pss, IsBytes bs) (hm' : m ≤ 1048576) (hbig : pss.flatten.length ≤ 1048576) :
    Calls Tryd.prog 11 #[.slice B m d] w fun e w' => e = .returned (.bool true) ∧ Keeps (fun _ => False) w w' := by
  obtain ⟨N, hN⟩ : ∃ N, (rowF pss).length = N := ⟨_, rfl⟩
  have hNb : N ≤ 16777216 := by have := rowF_le pss; omega
  have HLA : Hid (Calls Tryd.prog 25 #[.slice B m d] w fun e w' => ∃ A' c', e = .returned (.slice A' m c') ∧ LentAll w w' A' m c' pss) := Lib.hid (lentAll_any w B m d pss hnn hr hm')
  have HOU : Hid (∀ W (vals : List Value) (A' : Option Addr) (c' : Nat), W.ownsRow 0 22 1 (.slice A' m c') m vals → (∀ u ∈ vals, u.oneCell' = true) → Calls Tryd.prog 26 #[.slice A' m c'] W fun e w' => ∃ g c', e = .returned (.tuple #[.slice (some ⟨g, 0, none⟩) m c', .slice (some ⟨g, 0, none⟩) (m + 20) c']) ∧ FullAt W w' (some ⟨g, 0, none⟩) m 20 c' vals) := Lib.hid fun W vals A' c' ho h1 => outer_any W A' m c' vals (Rd.of_own ho) h1 hm'
  have HALL : Hid (∀ (w2 w3 : World) (A2 : Option Addr) (c2 g3 c3 : Nat) (vals : List Value), LentAll w w2 A2 m c2 pss → LentVals w w2 vals pss → FullAt w2 w3 (some ⟨g3, 0, none⟩) m 20 c3 vals → ∀ W, Keeps (fun _ => False) w3 W →
      (Calls Tryd.prog 41 #[.slice B m d] W fun e w' => ∃ A' c', e = .returned (.slice A' N c') ∧ Mine W w' 5 A' N c' (vb (rowF pss))) ∧
      (Calls Tryd.prog 42 #[.slice (some ⟨g3, 0, none⟩) m c3] W fun e w' => ∃ A' c', e = .returned (.slice A' N c') ∧ Mine W w' 5 A' N c' (vb (rowF pss))) ∧
      (Calls Tryd.prog 28 #[.slice A2 m c2, .slice B m d] W fun e w' => e = .returned (.bool true) ∧ Keeps (fun _ => False) W w') ∧
      (Calls Tryd.prog 29 #[.slice (some ⟨g3, 0, none⟩) (m + 20) c3, .slice B m d] W fun e w' => e = .returned (.bool true) ∧ Keeps (fun _ => False) W w') ∧
      (Calls Tryd.prog 16 #[] W fun e w' => e = .returned (.bool true) ∧ Keeps (fun _ => False) W w')) := Lib.hid fun w2 w3 A2 c2 g3 c3 vals h2 h2v h3 W hk => by
    have k02 : Keeps (fun _ => False) w w2 := by obtain ⟨_, a, _⟩ := h2; exact a.2.1
    have k23 : Keeps (fun _ => False) w2 w3 := by obtain ⟨_, a, _⟩ := h3; exact a.2.1
    have k2W : Keeps (fun _ => False) w2 W := k23.trans hk (fun _ _ h => h)
    have hwW : Keeps (fun _ => False) w W := k02.trans k2W (fun _ _ h => h)
    have gW := hG.keep hwW (fun _ h => h.elim)
    have hvW : LentVals w W vals pss := h2v.keep k2W
    exact ⟨rrow_any W B m d pss N hnn (hr.keep hwW (fun _ h => h)) hm' hN hNb,
      hrow_any W (tab_on hT hwW) _ m c3 pss N hnn (fullAt_parts (h3.keep hk) hvW hnn hb (by omega)) hm' hN hNb,
      keptAll_any W w A2 B m c2 d pss hnn (h2.keep k2W) (hr.keep hwW (fun _ h => h)) hm',
      stays_any W w2 w g3 c3 vals B m d pss hnn (h3.keep hk) hvW (hr.keep hwW (fun _ h => h)) hm', wakes_any W gW⟩
  have HCV : Hid (∀ (W : World) (A' : Option Addr) (c' : Nat), Rd W A' N (vb (rowF pss)) → (convert 22 9 (.slice A' N c')).run Tryd.prog W = .ok (.string (strOfNums (rowF pss))) W) := Lib.hid fun W A' c' h => convert_rd W Tryd.underlying22 Tryd.underlying5 Tryd.underlying9 c' h
  have HSP : Hid (∀ (W : World) (A' : Option Addr) (c' : Nat) (xs : List Value) (z : Int), W.ownsRow 0 5 1 (.slice A' N c') N xs → Calls Tryd.prog 39 #[.slice A' N c', .int .u8 z] W fun e w' => e = .returned (.tuple #[]) ∧ Keeps (fun g => (Value.slice A' N c').ownBlock = some g) W w') := Lib.hid fun W A' c' xs z h => spoil_any W A' N c' xs z h (by omega)
  obtain ⟨E, hE⟩ : ∃ E, E = vb (rowF pss) := ⟨_, rfl⟩
  obtain ⟨SE, hSE⟩ : ∃ s, s = strOfNums (rowF pss) := ⟨_, rfl⟩
  rw [← hSE] at HCV
  rw [← hE] at HCV HALL
  clear hE hSE hr hb hG hT hN hnn hNb
  go_enter Tryd.func11, Tryd.ntmps11
  have tok1 : True := trivial
  go_wp2_with (first
    | (go_at_call 25; refine HLA.out.mono ?_; rintro e w2 ⟨A2, c2, rfl, hl2⟩; have HX2 := Lib.hid hl2; obtain ⟨vals, hm2, hv2⟩ := hl2; have HM2 := Lib.hid hm2; have HV2 := Lib.hid hv2; clear hm2 hv2)
    | (go_at_call 26; refine (HOU.out w2 vals A2 c2 HM2.out.1 (lentVals_one HV2.out)).mono ?_; rintro e w3 ⟨g3, c3, rfl, hf3⟩; have hall := HALL.out w2 w3 A2 c2 g3 c3 vals HX2.out HV2.out hf3; have k23 : Keeps (fun _ => False) w2 w3 := (by obtain ⟨_, a, _⟩ := hf3; exact a.2.1); have HK3 := Lib.hid (HM2.out.2.1.trans k23 (fun _ _ h => h)); have HRR := Lib.hid (fun W hk => (hall W hk).1); have HHR := Lib.hid (fun W hk => (hall W hk).2.1); have HKA := Lib.hid (fun W hk => (hall W hk).2.2.1); have HST := Lib.hid (fun W hk => (hall W hk).2.2.2.1); have HWK := Lib.hid (fun W hk => (hall W hk).2.2.2.2); clear hall hf3 k23)
    | (go_at_call 41; refine (HRR.out w3 (Keeps.refl _ _)).mono ?_; rintro e w4 ⟨A4, c4, rfl, hm4⟩; have HK4 := Lib.hid hm4.2.1; have cv4 := HCV.out w4 A4 c4 hm4.rd; clear hm4)
    | (go_at_call 42; have _t := tok1; clear tok1 cv4; refine (HHR.out w4 HK4.out).mono ?_; rintro e w5 ⟨A5, c5, rfl, hm5⟩; have HM5 := Lib.hid hm5; have HK5 := Lib.hid (HK4.out.trans hm5.2.1 (fun _ _ h => h)); clear hm5; have tok2 : True := trivial)
    | (go_at_call 42; have _t := tok2; clear tok2; refine (HHR.out w5 HK5.out).mono ?_; rintro e w6 ⟨A6, c6, rfl, hm6⟩; have HM6 := Lib.hid hm6; have HA6 := Lib.hid (HM5.out.keep hm6.2.1); have HK6 := Lib.hid (HK5.out.trans hm6.2.1 (fun _ _ h => h)); have cva := HCV.out w6 A5 c5 HA6.out.rd; have cvb := HCV.out w6 A6 c6 hm6.rd; clear hm6; have tok3 : True := trivial; have tok4 : True := trivial)
    | (go_at_call 28; have _t := tok3; clear tok3; refine (HKA.out w6 HK6.out).mono ?_; rintro e w7 ⟨rfl, hk7⟩; have HK7 := Lib.hid (HK6.out.trans hk7 (fun _ _ h => h)); have HA7 := Lib.hid (HA6.out.keep hk7); have HM7 := Lib.hid (HM6.out.keep hk7); clear hk7 cva cvb)
    | (go_at_call 29; have _t := tok4; clear tok4; refine (HST.out w7 HK7.out).mono ?_; rintro e w8 ⟨rfl, hk8⟩; have HA8 := Lib.hid (HA7.out.keep hk8); have HM8 := Lib.hid (HM7.out.keep hk8); clear hk8; have tok5 : True := trivial)
    | (go_at_call 39; have _t := tok5; clear tok5; refine (HSP.out w8 A5 c5 _ _ HA8.out.1).mono ?_; rintro e w9 ⟨rfl, hk9⟩; have HM9 := Lib.hid (HM5.out.beside HM8.out (Keeps.refl _ _) hk9); have HK9 := Lib.hid (HK4.out.trans HM9.out.2.1 (fun _ _ h => h)); clear hk9; have cv9 := HCV.out w9 A6 c6 HM9.out.rd; have tok6 : True := trivial)
    | (go_at_call 28; have _t := tok6; clear tok6 cv9; refine (HKA.out w9 HK9.out).mono ?_; rintro e w10 ⟨rfl, hk10⟩; have HM10 := Lib.hid (HM9.out.keep hk10); clear hk10; have tok7 : True := trivial)
    | (go_at_call 39; have _t := tok7; clear tok7; refine (HSP.out w10 A6 c6 _ _ HM10.out.1).mono ?_; rintro e w11 ⟨rfl, hk11⟩; have HK11 := Lib.hid (HK4.out.trans (HM10.out.spoilt (Keeps.refl _ _) hk11) (fun _ _ h => h)); clear hk11; have tok8 : True := trivial)
    | (go_at_call 42; have _t := tok8; clear tok8; refine (HHR.out w11 HK11.out).mono ?_; rintro e w12 ⟨A12, c12, rfl, hm12⟩; have HK12 := Lib.hid (HK11.out.trans hm12.2.1 (fun _ _ h => h)); have cv12 := HCV.out w12 A12 c12 hm12.rd; clear hm12; have tok9 : True := trivial)
    | (go_at_call 28; have _t := tok9; clear tok9 cv12; refine (HKA.out w12 HK12.out).mono ?_; rintro e w13 ⟨rfl, hk13⟩; have HK13 := Lib.hid (HK12.out.trans hk13 (fun _ _ h => h)); clear hk13; have tok10 : True := trivial)
    | (go_at_call 29; have _t := tok10; clear tok10; refine (HST.out w13 HK13.out).mono ?_; rintro e w14 ⟨rfl, hk14⟩; have HK14 := Lib.hid (HK13.out.trans hk14 (fun _ _ h => h)); clear hk14)
    | (go_at_call 16; refine (HWK.out w14 HK14.out).mono ?_; rintro e w15 ⟨rfl, hk15⟩; have HK15 := Lib.hid ((HK3.out.trans HK14.out (fun _ _ h => h)).trans hk15 (fun _ _ h => h)); clear hk15))
  go_ret
  exact ⟨rfl, HK15.out⟩
end Go.Proofs.YtnlnbgjpbnjjfaaDoor
