/-
  WALKS: the statement HmacParts.
-/
import Derived.Test.YtnlnbgjpbnjjfaaDoorSpoilAllW
import Derived.Test.YtnlnbgjpbnjjfaaDoorRPartsW
set_option linter.unusedSimpArgs false
namespace Go.Mac
open Go Go.Aff
section
variable {row : List Int}
/-- The parts are cut out of the row. -/
theorem parse_sub : ∀ {f i : Nat} {acc pss : List (List Int)}, parse row f i acc = .ok pss → (∀ bs ∈ acc, (∀ x ∈ bs, x ∈ row) ∧ bs.length ≤ row.length) → ∀ bs ∈ pss, (∀ x ∈ bs, x ∈ row) ∧ bs.length ≤ row.length := by
  intro f
  induction f with
  | zero => intro i acc pss h ha; unfold parse at h; injection h with h; subst h; exact ha
  | succ f ih =>
    intro i acc pss h ha
    unfold parse at h
    split at h
    · injection h with h; subst h; exact ha
    · cases hs : scan row i (row.length - i) i 0 with
      | error e => rw [hs] at h; cases h
      | ok p =>
        obtain ⟨j, n⟩ := p
        rw [hs] at h
        dsimp only at h
        split at h
        · cases h
        · split at h
          · cases h
          · split at h
            · cases h
            · refine ih h fun bs hbs => ?_
              rcases List.mem_append.1 hbs with hb | hb
              · exact ha bs hb
              · rw [List.mem_singleton.1 hb]
                exact ⟨fun x hx => List.mem_of_mem_drop (List.mem_of_mem_take hx), by rw [List.length_take, List.length_drop]; omega⟩
theorem parse_many : ∀ {f i : Nat} {acc pss : List (List Int)}, parse row f i acc = .ok pss → i ≤ row.length → pss.length + i ≤ acc.length + row.length := by
  intro f
  induction f with
  | zero => intro i acc pss h hi; unfold parse at h; injection h with h; subst h; omega
  | succ f ih =>
    intro i acc pss h hi
    unfold parse at h
    split at h
    · injection h with h; subst h; omega
    · cases hs : scan row i (row.length - i) i 0 with
      | error e => rw [hs] at h; cases h
      | ok p =>
        obtain ⟨j, n⟩ := p
        have hj := scan_le hs hi (by omega)
        rw [hs] at h
        dsimp only at h
        split at h
        · cases h
        · split at h
          · cases h
          · split at h
            · cases h
            · have := ih h (by omega)
              simp only [List.length_append, List.length_cons, List.length_nil] at this
              omega
theorem partsF_sub {pss : List (List Int)} (h : partsF row = .ok pss) (hb : IsBytes row) : ∀ bs ∈ pss, IsBytes bs ∧ bs.length ≤ row.length := fun bs hbs => by
  have := parse_sub h (fun bs hb => by cases hb) bs hbs
  exact ⟨fun x hx => hb x (this.1 x hx), this.2⟩
theorem partsF_many {pss : List (List Int)} (h : partsF row = .ok pss) : pss.length ≤ row.length := by
  have := parse_many h (Nat.zero_le _)
  simpa using this
end
end Go.Mac
namespace Go.Proofs.YtnlnbgjpbnjjfaaDoor
open Go Go.RowKit Go.Sha Go.Aff Go.Mac

theorem as_spot (v : Value) (w : World) : (Instr.typeAssert (.iface 33 v) 26 33 true).run Tryd.prog w = .ok (.tuple #[v, .bool true]) w := by kernel_rfl

set_option maxHeartbeats 2000000 in
set_option maxRecDepth 100000 in
theorem hparts_wrong (w : World) (hG : Glob w) (A : Option Addr) (n c : Nat) (row : List Int) (hn : row.length = n) (hx : Rd w A n (vb row)) (bx : IsBytes row) (hm : n ≤ 1048576) (j : Nat) (hp : partsF row = .error j) :
    Calls Tryd.prog 3 #[.slice A n c] w fun e w' => e = .returned (.bool true) ∧ Keeps (fun _ => False) w w' := by
  have HL1 : Hid (Calls Tryd.prog 12 #[.slice A n c] w fun e w' => ∃ g cap, e = .returned (.slice (some ⟨g, 0, none⟩) n cap) ∧ Lent w w' g n cap row) := Lib.hid (lent_any w A n c row hn hx (by omega))
  have HALL : Hid (∀ (w1 : World) (g1 c1 : Nat), Lent w w1 g1 n c1 row → ∀ W, Keeps (fun _ => False) w1 W →
      (Calls Tryd.prog 13 #[.slice (some ⟨g1, 0, none⟩) n c1] W fun e w' => e = .returned (.tuple #[.slice none 0 0, spotE 70 j]) ∧ Keeps (fun _ => False) W w') ∧
      (Calls Tryd.prog 14 #[.slice A n c] W fun e w' => e = .returned (.tuple #[.slice none 0 0, .int .i64 j]) ∧ Keeps (fun _ => False) W w') ∧
      (Calls Tryd.prog 15 #[.slice (some ⟨g1, 0, none⟩) n c1, .slice A n c] W fun e w' => e = .returned (.bool true) ∧ W = w') ∧
      (Calls Tryd.prog 16 #[] W fun e w' => e = .returned (.bool true) ∧ Keeps (fun _ => False) W w')) := Lib.hid fun w1 g1 c1 h1 W hk => by
    have l1 := h1.keep hk
    have hwW : Keeps (fun _ => False) w W := h1.2.1.trans hk (fun _ _ h => h)
    have hc1 := l1.cap
    exact ⟨(hparts_any W _ n c1 row hn (l1.rd hn) bx (by omega) (by omega)).mono fun e w' h => h.2 j hp, (rparts_any W A n c row hn (hx.keep hwW (no_out _ _)) bx (by omega)).mono fun e w' h => h.2 j hp,
      (kept_any W w g1 n c1 A c row hn l1 (hx.keep hwW (no_out _ _)) (by omega)).mono fun e w' h => ⟨h.1, h.2.symm⟩, wakes_any W (hG.keep hwW (fun _ h => h.elim))⟩
  have has := as_spot
  clear hp hx bx hn hG
  go_enter Tryd.func3, Tryd.ntmps3
  go_wp2_with (first
    | (go_at_call 12; refine HL1.out.mono ?_; rintro e w1 ⟨g1, c1, rfl, hl1⟩; have HX1 := Lib.hid hl1.2.1; have hall := HALL.out w1 g1 c1 hl1; have HP := Lib.hid (fun W hk => (hall W hk).1); have HR := Lib.hid (fun W hk => (hall W hk).2.1); have HKE := Lib.hid (fun W hk => (hall W hk).2.2.1); have HWK := Lib.hid (fun W hk => (hall W hk).2.2.2); clear hall hl1 HALL)
    | (go_at_call 13; refine (HP.out w1 (Keeps.refl _ _)).mono ?_; rintro e w2 ⟨rfl, hk2⟩; have HK2 := Lib.hid hk2; clear hk2)
    | (go_at_call 14; refine (HR.out w2 HK2.out).mono ?_; rintro e w3 ⟨rfl, hk3⟩; have HK3 := Lib.hid (HK2.out.trans hk3 (fun _ _ h => h)); clear hk3)
    | (go_at_call 15; refine (HKE.out _ (HK3.out.alloc _)).mono ?_; rintro e w4 ⟨rfl, rfl⟩)
    | (go_at_call 16; refine (HWK.out _ (HK3.out.alloc _)).mono ?_; rintro e w5 ⟨rfl, hk5⟩; have HK5 := Lib.hid ((HX1.out.trans (HK3.out.alloc _) (fun _ _ h => h)).trans hk5 (fun _ _ h => h)); clear hk5))
  go_ret
  exact ⟨rfl, HK5.out⟩

set_option maxHeartbeats 4000000 in
set_option maxRecDepth 100000 in
theorem hparts_right (w : World) (hG : Glob w) (A : Option Addr) (n c : Nat) (row : List Int) (hn : row.length = n) (hx : Rd w A n (vb row)) (bx : IsBytes row) (hm : n ≤ 1048576) (pss : List (List Int)) (hp : partsF row = .ok pss) :
    Calls Tryd.prog 3 #[.slice A n c] w fun e w' => e = .returned (.bool true) ∧ Keeps (fun _ => False) w w' := by
  have hsub : ∀ bs ∈ pss, IsBytes bs ∧ bs.length ≤ 140737488351232 := fun bs hb => by
    have := partsF_sub hp bx bs hb
    exact ⟨this.1, by omega⟩
  have hmany := partsF_many hp
  obtain ⟨N, hN⟩ : ∃ N, pss.length = N := ⟨_, rfl⟩
  have hNn : N ≤ 1048576 := by omega
  have HL1 : Hid (Calls Tryd.prog 12 #[.slice A n c] w fun e w' => ∃ g cap, e = .returned (.slice (some ⟨g, 0, none⟩) n cap) ∧ Lent w w' g n cap row) := Lib.hid (lent_any w A n c row hn hx (by omega))
  have HALL : Hid (∀ (w1 : World) (g1 c1 : Nat), Lent w w1 g1 n c1 row → ∀ W, Keeps (fun _ => False) w1 W →
      (Calls Tryd.prog 13 #[.slice (some ⟨g1, 0, none⟩) n c1] W fun e w' => ∃ A' c' vals, e = .returned (.tuple #[.slice A' N c', .nilIface]) ∧ PartsV W w' A' N c' vals pss) ∧
      (Calls Tryd.prog 14 #[.slice A n c] W fun e w' => ∃ A' c' vals, e = .returned (.tuple #[.slice A' N c', .int .i64 (-1)]) ∧ PartsV W w' A' N c' vals pss) ∧
      (Calls Tryd.prog 15 #[.slice (some ⟨g1, 0, none⟩) n c1, .slice A n c] W fun e w' => e = .returned (.bool true) ∧ Keeps (fun _ => False) W w') ∧
      (Calls Tryd.prog 16 #[] W fun e w' => e = .returned (.bool true) ∧ Keeps (fun _ => False) W w')) := Lib.hid fun w1 g1 c1 h1 W hk => by
    have l1 := h1.keep hk
    have hwW : Keeps (fun _ => False) w W := h1.2.1.trans hk (fun _ _ h => h)
    have hc1 := l1.cap
    refine ⟨(hparts_any W _ n c1 row hn (l1.rd hn) bx (by omega) (by omega)).mono fun e w' h => ?_, (rparts_any W A n c row hn (hx.keep hwW (no_out _ _)) bx (by omega)).mono fun e w' h => ?_,
      (kept_any W w g1 n c1 A c row hn l1 (hx.keep hwW (no_out _ _)) (by omega)).mono fun e w' h => ⟨h.1, by rw [h.2]; exact Keeps.refl _ _⟩, wakes_any W (hG.keep hwW (fun _ h => h.elim))⟩
    · obtain ⟨A', k, c', vals, he, hv⟩ := h.1 pss hp
      have e1 : k = N := by rw [← hN]; exact hv.len.symm
      subst e1
      exact ⟨A', c', vals, he, hv⟩
    · obtain ⟨A', k, c', vals, he, hv⟩ := h.1 pss hp
      have e1 : k = N := by rw [← hN]; exact hv.len.symm
      subst e1
      exact ⟨A', c', vals, he, hv⟩
  have HAL : Hid (∀ (W : World) (B C : Option Addr) (d e : Nat), RdPartsO (fun _ => False) W B pss → RdPartsO (fun _ => False) W C pss → Calls Tryd.prog 17 #[.slice B N d, .slice C N e] W fun e w' => e = .returned (.bool true) ∧ Keeps (fun _ => False) W w') := Lib.hid fun W B C d e h1 h2 => alike_any W B C N d e pss hN h1 h2 (by omega)
  have HSA : Hid (∀ (W0 W : World) (B : Option Addr) (d : Nat) (vals : List Value), PartsV W0 W B N d vals pss → Calls Tryd.prog 18 #[.slice B N d] W fun e w' => e = .returned (.bool true) ∧ Keeps (fun g => ∃ v ∈ vals, v.ownBlock = some g) W w') := Lib.hid fun W0 W B d vals h => spoilAll_any W B N d vals _ (h.spread hsub) (by omega)
  have HPA : Hid (∀ {F : Nat → Prop} {W0 W : World} {B : Option Addr} {d : Nat} {vals : List Value}, PartsV W0 W B N d vals pss → (∀ g, F g → g < W0.heap.size) → RdPartsO F W B pss) := Lib.hid fun h hF => h.parts hsub hF
  have HVB : Hid (∀ {W0 W : World} {B : Option Addr} {d : Nat} {vals : List Value}, PartsV W0 W B N d vals pss → ∀ g, (∃ v ∈ vals, v.ownBlock = some g) → W0.heap.size ≤ g ∧ g < W.heap.size) := Lib.hid fun h g hg => by
    obtain ⟨v, hv, hgb⟩ := hg
    obtain ⟨i, hi⟩ := List.mem_iff_getElem?.1 hv
    have hlt : i < pss.length := by have := (List.getElem?_eq_some_iff.1 hi).1; rw [h.vlen, ← h.len] at this; exact this
    obtain ⟨A', c', a, b⟩ := h.each i _ (List.getElem?_eq_getElem hlt)
    rw [hi] at a
    injection a with a
    subst a
    exact ⟨b.2.2 g hgb, (b.1.lt g hgb).2⟩
  clear hp hx bx hn hG hsub hmany hN
  go_enter Tryd.func3, Tryd.ntmps3
  have tok1 : True := trivial
  go_wp2_with (first
    | (go_at_call 12; refine HL1.out.mono ?_; rintro e w1 ⟨g1, c1, rfl, hl1⟩; have HX1 := Lib.hid hl1.2.1; have hall := HALL.out w1 g1 c1 hl1; have HP := Lib.hid (fun W hk => (hall W hk).1); have HR := Lib.hid (fun W hk => (hall W hk).2.1); have HKE := Lib.hid (fun W hk => (hall W hk).2.2.1); have HWK := Lib.hid (fun W hk => (hall W hk).2.2.2); clear hall hl1 HALL)
    | (go_at_call 13; have _t := tok1; clear tok1; refine (HP.out w1 (Keeps.refl _ _)).mono ?_; rintro e w2 ⟨A2, c2, vals2, rfl, hv2⟩; have HV2 := Lib.hid hv2; have HK2 := Lib.hid hv2.row.2.1; clear hv2)
    | (go_at_call 14; refine (HR.out w2 HK2.out).mono ?_; rintro e w3 ⟨A3, c3, vals3, rfl, hv3⟩; have HV3 := Lib.hid hv3; have HK3 := Lib.hid (HK2.out.trans hv3.row.2.1 (fun _ _ h => h)); clear hv3; have tok2 : True := trivial)
    | (go_at_call 13; have _t := tok2; clear tok2; refine (HP.out w3 HK3.out).mono ?_; rintro e w4 ⟨A4, c4, vals4, rfl, hv4⟩; have HV4 := Lib.hid hv4; have HK4 := Lib.hid (HK3.out.trans hv4.row.2.1 (fun _ _ h => h)); clear hv4;
        have HF2 : Hid (∀ g, (∃ v ∈ vals2, v.ownBlock = some g) → g < w2.heap.size) := Lib.hid (fun g hg => (HVB.out HV2.out g hg).2);
        have HA4 := Lib.hid (HPA.out (F := fun _ => False) (HV2.out.keep (HV3.out.row.2.1.trans HV4.out.row.2.1 (fun _ _ h => h))) (fun _ h => h.elim));
        have HB4 : Hid (RdPartsO (fun g => ∃ v ∈ vals2, v.ownBlock = some g) w4 A3 pss) := Lib.hid (HPA.out (HV3.out.keep HV4.out.row.2.1) HF2.out);
        have HC4 : Hid (RdPartsO (fun g => ∃ v ∈ vals2, v.ownBlock = some g) w4 A4 pss) := Lib.hid (HPA.out HV4.out (fun g hg => by have := HF2.out g hg; have := HV3.out.row.2.1.size; omega)); have tok3 : True := trivial)
    | (go_at_call 17; have _t := tok3; clear tok3; refine (HAL.out w4 A2 A3 c2 c3 HA4.out (HB4.out.weaken (fun _ h => h.elim))).mono ?_; rintro e w5 ⟨rfl, hk5⟩; have HK5 := Lib.hid hk5; clear hk5; have tok4 : True := trivial)
    | (go_at_call 17; have _t := tok4; clear tok4; refine (HAL.out w5 A4 A3 c4 c3 ((HC4.out.keep HK5.out (fun _ h => h.elim)).weaken (fun _ h => h.elim)) ((HB4.out.keep HK5.out (fun _ h => h.elim)).weaken (fun _ h => h.elim))).mono ?_; rintro e w6 ⟨rfl, hk6⟩; have HK6 := Lib.hid (HK5.out.trans hk6 (fun _ _ h => h)); clear hk6; have tok5 : True := trivial)
    | (go_at_call 15; have _t := tok5; clear tok5; refine (HKE.out w6 (HK4.out.trans HK6.out (fun _ _ h => h))).mono ?_; rintro e w7 ⟨rfl, hk7⟩; have HK7 := Lib.hid (HK6.out.trans hk7 (fun _ _ h => h)); have HV7 := Lib.hid (HV2.out.keep ((HV3.out.row.2.1.trans HV4.out.row.2.1 (fun _ _ h => h)).trans HK7.out (fun _ _ h => h))); clear hk7)
    | (go_at_call 18; refine (HSA.out w1 w7 A2 c2 vals2 HV7.out).mono ?_; rintro e w8 ⟨rfl, hk8⟩; have HB8 := Lib.hid ((HB4.out.keep HK7.out (fun _ h => h.elim)).keep hk8 (fun _ h => h)); have HC8 := Lib.hid ((HC4.out.keep HK7.out (fun _ h => h.elim)).keep hk8 (fun _ h => h)); have HK8 : Hid (Keeps (fun _ => False) w1 w8) := Lib.hid ((HK4.out.trans HK7.out (fun _ _ h => h)).trans hk8 (fun i hi hg => by have := (HVB.out HV2.out i hg).1; omega)); clear hk8; have tok6 : True := trivial)
    | (go_at_call 15; have _t := tok6; clear tok6; refine (HKE.out w8 HK8.out).mono ?_; rintro e w9 ⟨rfl, hk9⟩; have HK9 := Lib.hid hk9; clear hk9; have tok7 : True := trivial)
    | (go_at_call 17; have _t := tok7; clear tok7; refine (HAL.out w9 A4 A3 c4 c3 ((HC8.out.keep HK9.out (fun _ h => h.elim)).weaken (fun _ h => h.elim)) ((HB8.out.keep HK9.out (fun _ h => h.elim)).weaken (fun _ h => h.elim))).mono ?_; rintro e w10 ⟨rfl, hk10⟩; have HK10 := Lib.hid (HK9.out.trans hk10 (fun _ _ h => h)); have HKX := Lib.hid (HK8.out.trans HK10.out (fun _ _ h => h)); clear hk10; have tok8 : True := trivial)
    | (go_at_call 13; have _t := tok8; clear tok8; refine (HP.out w10 HKX.out).mono ?_; rintro e w11 ⟨A11, c11, vals11, rfl, hv11⟩; have HA11 := Lib.hid (HPA.out (F := fun _ => False) hv11 (fun _ h => h.elim)); have HK11 := Lib.hid (HK10.out.trans hv11.row.2.1 (fun _ _ h => h)); clear hv11; have tok9 : True := trivial)
    | (go_at_call 17; have _t := tok9; clear tok9; refine (HAL.out w11 A11 A3 c11 c3 HA11.out ((HB8.out.keep HK11.out (fun _ h => h.elim)).weaken (fun _ h => h.elim))).mono ?_; rintro e w12 ⟨rfl, hk12⟩; have HK12 := Lib.hid ((HK8.out.trans HK11.out (fun _ _ h => h)).trans hk12 (fun _ _ h => h)); clear hk12)
    | (go_at_call 16; refine (HWK.out w12 HK12.out).mono ?_; rintro e w13 ⟨rfl, hk13⟩; have HK13 := Lib.hid ((HX1.out.trans HK12.out (fun _ _ h => h)).trans hk13 (fun _ _ h => h)); clear hk13))
  go_ret
  exact ⟨rfl, HK13.out⟩

theorem hmacParts_any (w : World) (hG : Glob w) (A : Option Addr) (n c : Nat) (row : List Int) (hn : row.length = n) (hx : Rd w A n (vb row)) (bx : IsBytes row) (hm : n ≤ 1048576) :
    Calls Tryd.prog 3 #[.slice A n c] w fun e w' => e = .returned (.bool true) ∧ Keeps (fun _ => False) w w' := by
  cases hp : partsF row with
  | error j => exact hparts_wrong w hG A n c row hn hx bx hm j hp
  | ok pss => exact hparts_right w hG A n c row hn hx bx hm pss hp
end Go.Proofs.YtnlnbgjpbnjjfaaDoor
