/-
  WALKS: the statement HmacExpands.
-/
import Derived.Test.YtnlnbgjpbnjjfaaDoorWakesW
import Derived.Test.YtnlnbgjpbnjjfaaDoorExpandW
import Derived.Test.YtnlnbgjpbnjjfaaDoorRExpW
import Derived.Test.YtnlnbgjpbnjjfaaDoorSpoilW
set_option linter.unusedSimpArgs false
namespace Go.Aff
open Go Go.RowKit
theorem Mine.rd {w wr : World} {e : TypeId} {A : Option Addr} {m c : Nat} {xs : List Value} (h : Mine w wr e A m c xs) : Rd wr A m xs := Rd.of_own h.1
theorem Mine.since {w w1 wr : World} {e : TypeId} {A : Option Addr} {m c : Nat} {xs : List Value} (h : Mine w1 wr e A m c xs) (hk : Keeps (fun _ => False) w w1) : Mine w wr e A m c xs := ⟨h.1, hk.trans h.2.1 (fun _ _ h => h), fun g hg => Nat.le_trans hk.size (h.2.2 g hg)⟩
/-- A row is spoilt: all that is older than it is as it was. -/
theorem Mine.spoilt {w wr w1 w' : World} {e : TypeId} {A : Option Addr} {m c : Nat} {xs : List Value} (h : Mine w wr e A m c xs) (h1 : Keeps (fun _ => False) wr w1) (hk : Keeps (fun g => (Value.slice A m c).ownBlock = some g) w1 w') : Keeps (fun _ => False) w w' :=
  (h.2.1.trans h1 (fun _ _ h => h)).trans hk (fun i hi hg => by have := h.2.2 i hg; omega)
/-- .. and a newer row too. -/
theorem Mine.beside {w wa w4 w5 w' : World} {e e2 : TypeId} {A A2 : Option Addr} {m c m2 c2 : Nat} {xs xs2 : List Value} (h : Mine w wa e A m c xs) (hb : Mine w4 w5 e2 A2 m2 c2 xs2) (h4 : Keeps (fun _ => False) wa w4) (hk : Keeps (fun g => (Value.slice A m c).ownBlock = some g) w5 w') : Mine w w' e2 A2 m2 c2 xs2 := by
  have hlt : ∀ g, (Value.slice A m c).ownBlock = some g → g < w4.heap.size := fun g hg => by have := (h.1.lt g hg).2; have := h4.size; omega
  have hw4 : Keeps (fun _ => False) w w4 := h.2.1.trans h4 (fun _ _ h => h)
  refine ⟨hk.own hb.1 (fun g hg hF => ?_), h.spoilt (h4.trans hb.2.1 (fun _ _ h => h)) hk, fun g hg => ?_⟩
  · have := hb.2.2 g hg; have := hlt g hF; omega
  · have := hb.2.2 g hg; have := hw4.size; omega
end Go.Aff
namespace Go.Proofs.YtnlnbgjpbnjjfaaDoor
open Go Go.RowKit Go.Sha Go.Aff Go.Mac

set_option maxRecDepth 100000 in
theorem hexpands_low (w : World) (hG : Glob w) (A B : Option Addr) (n c m d : Nat) (key info : List Int) (z : Int) (hz : z < 0)
    (hn : key.length = n) (hx : Rd w A n (vb key)) (hm : n ≤ 140737488351232)
    (hn' : info.length = m) (hy : Rd w B m (vb info)) (hm' : m ≤ 140737488351232) :
    Calls Tryd.prog 9 #[.slice A n c, .slice B m d, .int .i64 z] w fun e w' => e = .returned (.bool true) ∧ Keeps (fun _ => False) w w' := by
  have HL1 : Hid (Calls Tryd.prog 12 #[.slice A n c] w fun e w' => ∃ g cap, e = .returned (.slice (some ⟨g, 0, none⟩) n cap) ∧ Lent w w' g n cap key) := Lib.hid (lent_any w A n c key hn hx hm)
  have HL2 : Hid (∀ W, Keeps (fun _ => False) w W → Calls Tryd.prog 12 #[.slice B m d] W fun e w' => ∃ g cap, e = .returned (.slice (some ⟨g, 0, none⟩) m cap) ∧ Lent W w' g m cap info) := Lib.hid fun W hk => lent_any W B m d info hn' (hy.keep hk (no_out _ _)) hm'
  have HWK : Hid (∀ W, Keeps (fun _ => False) w W → Calls Tryd.prog 16 #[] W fun e w' => e = .returned (.bool true) ∧ Keeps (fun _ => False) W w') := Lib.hid fun W hk => wakes_any W (hG.keep hk (fun _ h => h.elim))
  have HEX : Hid (∀ (W : World) (a b : Value), Calls Tryd.prog 23 #[a, b, .int .i64 z] W fun e w' => e = .returned (.tuple #[.slice none 0 0, errno 2]) ∧ W = w') := Lib.hid fun W a b => (hexpand_low W a b z hz).mono fun e w' h => ⟨h.1, h.2.symm⟩
  have HNO : Hid (∀ W, Calls Tryd.prog 37 #[errno 2, .int .i64 2] W fun e w' => e = .returned (.bool true) ∧ W = w') := Lib.hid fun W => (number_any W 2).mono fun e w' h => ⟨h.1, h.2.symm⟩
  clear hx hy hn hn' hG
  go_enter Tryd.func9, Tryd.ntmps9
  have tok1 : True := trivial
  go_wp2_with (first
    | (go_at_call 12; have _t := tok1; clear tok1; refine HL1.out.mono ?_; rintro e w1 ⟨g1, c1, rfl, hl1⟩; have HX1 := Lib.hid hl1.2.1; clear hl1)
    | (go_at_call 12; refine (HL2.out _ HX1.out).mono ?_; rintro e w2 ⟨g2, c2, rfl, hl2⟩; have HX2 := Lib.hid (HX1.out.trans hl2.2.1 (fun _ _ h => h)); clear hl2)
    | (go_at_call 23; refine (HEX.out w2 _ _).mono ?_; rintro e w3 ⟨rfl, rfl⟩)
    | (go_at_call 37; refine (HNO.out w2).mono ?_; rintro e w3 ⟨rfl, rfl⟩)
    | (go_at_call 16; refine (HWK.out w2 HX2.out).mono ?_; rintro e w3 ⟨rfl, hk3⟩; have HK3 := Lib.hid (HX2.out.trans hk3 (fun _ _ h => h)); clear hk3))
  go_ret
  exact ⟨rfl, HK3.out⟩

set_option maxRecDepth 100000 in
theorem hexpands_high (w : World) (hG : Glob w) (A B : Option Addr) (n c m d : Nat) (key info : List Int) (z : Int) (hz : 8160 < z)
    (hn : key.length = n) (hx : Rd w A n (vb key)) (hm : n ≤ 140737488351232)
    (hn' : info.length = m) (hy : Rd w B m (vb info)) (hm' : m ≤ 140737488351232) :
    Calls Tryd.prog 9 #[.slice A n c, .slice B m d, .int .i64 z] w fun e w' => e = .returned (.bool true) ∧ Keeps (fun _ => False) w w' := by
  have HL1 : Hid (Calls Tryd.prog 12 #[.slice A n c] w fun e w' => ∃ g cap, e = .returned (.slice (some ⟨g, 0, none⟩) n cap) ∧ Lent w w' g n cap key) := Lib.hid (lent_any w A n c key hn hx hm)
  have HL2 : Hid (∀ W, Keeps (fun _ => False) w W → Calls Tryd.prog 12 #[.slice B m d] W fun e w' => ∃ g cap, e = .returned (.slice (some ⟨g, 0, none⟩) m cap) ∧ Lent W w' g m cap info) := Lib.hid fun W hk => lent_any W B m d info hn' (hy.keep hk (no_out _ _)) hm'
  have HWK : Hid (∀ W, Keeps (fun _ => False) w W → Calls Tryd.prog 16 #[] W fun e w' => e = .returned (.bool true) ∧ Keeps (fun _ => False) W w') := Lib.hid fun W hk => wakes_any W (hG.keep hk (fun _ h => h.elim))
  have HEX : Hid (∀ (W : World) (a b : Value), Calls Tryd.prog 23 #[a, b, .int .i64 z] W fun e w' => e = .returned (.tuple #[.slice none 0 0, errno 3]) ∧ W = w') := Lib.hid fun W a b => (hexpand_high W a b z hz).mono fun e w' h => ⟨h.1, h.2.symm⟩
  have HNO : Hid (∀ W, Calls Tryd.prog 37 #[errno 3, .int .i64 3] W fun e w' => e = .returned (.bool true) ∧ W = w') := Lib.hid fun W => (number_any W 3).mono fun e w' h => ⟨h.1, h.2.symm⟩
  clear hx hy hn hn' hG
  have h0 : ¬ (z < 0) := by omega
  go_enter Tryd.func9, Tryd.ntmps9
  have tok1 : True := trivial
  go_wp2_with (first
    | (go_at_call 12; have _t := tok1; clear tok1; refine HL1.out.mono ?_; rintro e w1 ⟨g1, c1, rfl, hl1⟩; have HX1 := Lib.hid hl1.2.1; clear hl1)
    | (go_at_call 12; refine (HL2.out _ HX1.out).mono ?_; rintro e w2 ⟨g2, c2, rfl, hl2⟩; have HX2 := Lib.hid (HX1.out.trans hl2.2.1 (fun _ _ h => h)); clear hl2)
    | (go_at_call 23; refine (HEX.out w2 _ _).mono ?_; rintro e w3 ⟨rfl, rfl⟩)
    | (go_at_call 37; refine (HNO.out w2).mono ?_; rintro e w3 ⟨rfl, rfl⟩)
    | (go_at_call 16; refine (HWK.out w2 HX2.out).mono ?_; rintro e w3 ⟨rfl, hk3⟩; have HK3 := Lib.hid (HX2.out.trans hk3 (fun _ _ h => h)); clear hk3))
  go_ret
  exact ⟨rfl, HK3.out⟩

set_option maxHeartbeats 4000000 in
set_option maxRecDepth 100000 in
theorem hexpands_in (w : World) (hG : Glob w) (A B : Option Addr) (n c m d : Nat) (key info : List Int) (N : Nat)
    (hn : key.length = n) (hx : Rd w A n (vb key)) (bx : IsBytes key) (hm : n ≤ 140737488351232)
    (hn' : info.length = m) (hy : Rd w B m (vb info)) (by' : IsBytes info) (hm' : m ≤ 140737488351232) (hN : N ≤ 8160) :
    Calls Tryd.prog 9 #[.slice A n c, .slice B m d, .int .i64 N] w fun e w' => e = .returned (.bool true) ∧ Keeps (fun _ => False) w w' := by
  have HL1 : Hid (Calls Tryd.prog 12 #[.slice A n c] w fun e w' => ∃ g cap, e = .returned (.slice (some ⟨g, 0, none⟩) n cap) ∧ Lent w w' g n cap key) := Lib.hid (lent_any w A n c key hn hx hm)
  have HL2 : Hid (∀ W, Keeps (fun _ => False) w W → Calls Tryd.prog 12 #[.slice B m d] W fun e w' => ∃ g cap, e = .returned (.slice (some ⟨g, 0, none⟩) m cap) ∧ Lent W w' g m cap info) := Lib.hid fun W hk => lent_any W B m d info hn' (hy.keep hk (no_out _ _)) (by omega)
  have HALL : Hid (∀ (w1 w2 : World) (g1 c1 g2 c2 : Nat), Lent w w1 g1 n c1 key → Lent w1 w2 g2 m c2 info → ∀ W, Keeps (fun _ => False) w2 W →
      (Calls Tryd.prog 23 #[.slice (some ⟨g1, 0, none⟩) n c1, .slice (some ⟨g2, 0, none⟩) m c2, .int .i64 N] W fun e w' => ∃ A' c', e = .returned (.tuple #[.slice A' N c', .nilIface]) ∧ Mine W w' 5 A' N c' (vb (expF key info N))) ∧
      (Calls Tryd.prog 38 #[.slice A n c, .slice B m d, .int .i64 N] W fun e w' => ∃ A' c', e = .returned (.slice A' N c') ∧ Rd w' A' N (vb (expF key info N)) ∧ Keeps (fun _ => False) W w') ∧
      (Calls Tryd.prog 15 #[.slice (some ⟨g1, 0, none⟩) n c1, .slice A n c] W fun e w' => e = .returned (.bool true) ∧ W = w') ∧
      (Calls Tryd.prog 15 #[.slice (some ⟨g2, 0, none⟩) m c2, .slice B m d] W fun e w' => e = .returned (.bool true) ∧ W = w') ∧
      (Calls Tryd.prog 16 #[] W fun e w' => e = .returned (.bool true) ∧ Keeps (fun _ => False) W w')) := Lib.hid fun w1 w2 g1 c1 g2 c2 h1 h2 W hk => by
    have l1 := (h1.keep h2.2.1).keep hk
    have l2 := h2.keep hk
    have hwW : Keeps (fun _ => False) w W := (h1.2.1.trans h2.2.1 (fun _ _ h => h)).trans hk (fun _ _ h => h)
    have hxW := hx.keep hwW (no_out _ _)
    have hyW := hy.keep hwW (no_out _ _)
    have gW := hG.keep hwW (fun _ h => h.elim)
    have hc1 := l1.cap
    have hc2 := l2.cap
    exact ⟨hexpand_any W gW _ _ n c1 m c2 key info N hn (l1.rd hn) bx (by omega) hm hn' (l2.rd hn') by' (by omega) (by omega) hN,
      rexpand_any W A B n c m d key info N hn hxW bx hm hn' hyW by' hm' hN,
      (kept_any W w g1 n c1 A c key hn l1 hxW hm).mono fun e w' h => ⟨h.1, h.2.symm⟩, (kept_any W w1 g2 m c2 B d info hn' l2 hyW (by omega)).mono fun e w' h => ⟨h.1, h.2.symm⟩, wakes_any W gW⟩
  have HCV : Hid (∀ (W : World) (A' : Option Addr) (c' : Nat), Rd W A' N (vb (expF key info N)) → (convert 22 9 (.slice A' N c')).run Tryd.prog W = .ok (.string (strOfNums (expF key info N))) W) := Lib.hid fun W A' c' h => convert_rd W Tryd.underlying22 Tryd.underlying5 Tryd.underlying9 c' h
  have HSP : Hid (∀ (W : World) (A' : Option Addr) (c' : Nat) (xs : List Value) (z : Int), W.ownsRow 0 5 1 (.slice A' N c') N xs → Calls Tryd.prog 39 #[.slice A' N c', .int .u8 z] W fun e w' => e = .returned (.tuple #[]) ∧ Keeps (fun g => (Value.slice A' N c').ownBlock = some g) W w') := Lib.hid fun W A' c' xs z h => spoil_any W A' N c' xs z h (by omega)
  obtain ⟨E, hE⟩ : ∃ E, E = expF key info N := ⟨_, rfl⟩
  obtain ⟨SE, hSE⟩ : ∃ s, s = strOfNums (expF key info N) := ⟨_, rfl⟩
  rw [← hSE] at HCV
  rw [← hE] at HCV HALL
  clear hE hSE hx hy bx by' hn hn' hG
  go_enter Tryd.func9, Tryd.ntmps9
  have tok1 : True := trivial
  go_wp2_with (first
    | (go_at_call 12; have _t := tok1; clear tok1; refine HL1.out.mono ?_; rintro e w1 ⟨g1, c1, rfl, hl1⟩; have HX1 := Lib.hid hl1; clear hl1)
    | (go_at_call 12; refine (HL2.out _ HX1.out.2.1).mono ?_; rintro e w2 ⟨g2, c2, rfl, hl2⟩; have HX2 := Lib.hid hl2; have hall := HALL.out w1 w2 g1 c1 g2 c2 HX1.out hl2; have HEX := Lib.hid (fun W hk => (hall W hk).1); have HRE := Lib.hid (fun W hk => (hall W hk).2.1); have HK1 := Lib.hid (fun W hk => (hall W hk).2.2.1); have HK2 := Lib.hid (fun W hk => (hall W hk).2.2.2.1); have HWK := Lib.hid (fun W hk => (hall W hk).2.2.2.2); clear hall HALL hl2 HL1 HL2; have tok2 : True := trivial; have tok3 : True := trivial)
    | (go_at_call 23; have _t := tok2; clear tok2; refine (HEX.out w2 (Keeps.refl _ _)).mono ?_; rintro e w3 ⟨A3, c3, rfl, hm3⟩; have HM3 := Lib.hid hm3; clear hm3)
    | (go_at_call 38; refine (HRE.out w3 HM3.out.2.1).mono ?_; rintro e w4 ⟨A4, c4, rfl, hr4, hk4⟩; have HK4 := Lib.hid hk4; have cv4 := HCV.out w4 A4 c4 hr4; clear hk4 hr4)
    | (go_at_call 23; have _t := tok3; clear tok3 cv4; refine (HEX.out w4 (HM3.out.2.1.trans HK4.out (fun _ _ h => h))).mono ?_; rintro e w5 ⟨A5, c5, rfl, hm5⟩; have HM5 := Lib.hid hm5; have HA5 := Lib.hid (HM3.out.keep (HK4.out.trans hm5.2.1 (fun _ _ h => h))); have cva := HCV.out w5 A3 c3 HA5.out.rd; have cvb := HCV.out w5 A5 c5 hm5.rd; clear hm5; have HKW5 := Lib.hid HA5.out.2.1)
    | (go_at_call 15; (with_reducible refine (HK1.out w5 HKW5.out).mono ?_); rintro e w6 ⟨rfl, rfl⟩)
    | (go_at_call 15; (with_reducible refine (HK2.out w5 HKW5.out).mono ?_); rintro e w6 ⟨rfl, rfl⟩; have tok4 : True := trivial; have tok5 : True := trivial)
    | (go_at_call 39; have _t := tok4; clear tok4 cva cvb; refine (HSP.out w5 A3 c3 _ _ HA5.out.1).mono ?_; rintro e w6 ⟨rfl, hk6⟩; have HB6 := Lib.hid (HA5.out.since (Keeps.refl _ _)); have HM6 := Lib.hid (HM3.out.beside HM5.out HK4.out hk6); clear HB6 hk6; have cvb := HCV.out w6 A5 c5 HM6.out.rd)
    | (go_at_call 39; have _t := tok5; clear tok5 cvb; refine (HSP.out w6 A5 c5 _ _ HM6.out.1).mono ?_; rintro e w7 ⟨rfl, hk7⟩; have HK7 := Lib.hid (HM6.out.spoilt (Keeps.refl _ _) hk7); clear hk7; have tok6 : True := trivial)
    | (go_at_call 23; have _t := tok6; clear tok6; refine (HEX.out w7 HK7.out).mono ?_; rintro e w8 ⟨A8, c8, rfl, hm8⟩; have HM8 := Lib.hid hm8; have cvc := HCV.out w8 A8 c8 hm8.rd; have HK8 := Lib.hid (HK7.out.trans hm8.2.1 (fun _ _ h => h)); clear hm8)
    | (go_at_call 16; refine (HWK.out w8 HK8.out).mono ?_; rintro e w9 ⟨rfl, hk9⟩; have HK9 := Lib.hid (HK8.out.trans hk9 (fun _ _ h => h)); clear hk9))
  go_ret
  exact ⟨rfl, (HX1.out.2.1.trans HX2.out.2.1 (fun _ _ h => h)).trans HK9.out (fun _ _ h => h)⟩

set_option maxHeartbeats 1000000 in
theorem hexpands_any (w : World) (hG : Glob w) (A B : Option Addr) (n c m d : Nat) (key info : List Int) (z : Int)
    (hn : key.length = n) (hx : Rd w A n (vb key)) (bx : IsBytes key) (hm : n ≤ 140737488351232)
    (hn' : info.length = m) (hy : Rd w B m (vb info)) (by' : IsBytes info) (hm' : m ≤ 140737488351232) :
    Calls Tryd.prog 9 #[.slice A n c, .slice B m d, .int .i64 z] w fun e w' => e = .returned (.bool true) ∧ Keeps (fun _ => False) w w' := by
  by_cases hz : z < 0
  · exact hexpands_low w hG A B n c m d key info z hz hn hx hm hn' hy (by omega)
  by_cases hz2 : 8160 < z
  · exact hexpands_high w hG A B n c m d key info z hz2 hn hx hm hn' hy (by omega)
  · obtain ⟨N, rfl⟩ : ∃ N : Nat, z = N := ⟨z.toNat, by omega⟩
    exact hexpands_in w hG A B n c m d key info N hn hx bx hm hn' hy by' hm' (by omega)
end Go.Proofs.YtnlnbgjpbnjjfaaDoor
