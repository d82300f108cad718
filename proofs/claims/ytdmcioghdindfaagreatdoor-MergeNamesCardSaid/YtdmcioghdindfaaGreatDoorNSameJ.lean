/-
  WALKS: Ref.Same, Tree.Same of any two values: whether they are one.
-/
import Derived.Test.YtdmcioghdindfaaGreatDoorNSameW
import Derived.Test.YtdmcioghdindfaaGreatDoorNNameW
import Derived.Test.YtdmcioghdindfaaGreatDoorFltP
set_option linter.unusedSimpArgs false
namespace Go.Json
/-- A value with no more values within than fit. -/
inductive Slim : JV → Prop
  | mk (j : JV) (h1 : j.items.length ≤ 1099511627776) (h2 : j.keys.length ≤ 1099511627776) (h : ∀ x, x ∈ j.items → Slim x) : Slim j
theorem Slim.items {j : JV} (h : Slim j) : ∀ x, x ∈ j.items → Slim x := by cases h; assumption
theorem Slim.len {j : JV} (h : Slim j) : j.items.length ≤ 1099511627776 ∧ j.keys.length ≤ 1099511627776 := by
  cases h
  exact ⟨by assumption, by assumption⟩
end Go.Json
namespace Go.Proofs.YtdmcioghdindfaaGreatDoor
open Go Go.RowKit Go.Aff Go.Json Go.Shelf
theorem bo_null (w : World) : (binOp .eql 79 (.iface 166 (.agg #[])) (.iface 166 (.agg #[]))).run Tryz.prog w = .ok (.bool true) w := by kernel_rfl
theorem bo_flag (w : World) (a b : Bool) : (binOp .eql 79 (.iface 167 (.bool a)) (.iface 167 (.bool b))).run Tryz.prog w = .ok (.bool (a == b)) w := by kernel_rfl
theorem bo_num (w : World) (a b : Nat) : (binOp .eql 79 (.iface 172 (.float .f64 a)) (.iface 172 (.float .f64 b))).run Tryz.prog w = .ok (.bool (Ieee.double.order a b == some .eq)) w := by kernel_rfl
theorem bo_text (w : World) (a b : ByteArray) : (binOp .eql 79 (.iface 173 (.string a)) (.iface 173 (.string b))).run Tryz.prog w = .ok (.bool (a == b)) w := by kernel_rfl
theorem ba_beq (a b : ByteArray) : (a == b) = true ↔ a = b := by
  cases a with | mk a => cases b with | mk b =>
    show (a == b) = true ↔ _
    rw [beq_iff_eq]
    simp
theorem same_any (j : JV) : ∀ (k : JV) (D E : Nat → Prop) (w : World) (v v2 : Value), Slim j → JAt D w v j → JAt E w v2 k → ∃ b, (b = true ↔ j = k) ∧ ∀ W, Keeps (fun _ => False) w W →
    Calls Tryz.prog 45 #[.agg #[v], .agg #[v2]] W fun e w' => e = .returned (.bool b) ∧ Keeps (fun _ => False) W w' := by
  have main : ∀ (j : JV), (∀ x, x ∈ j.items → ∀ (k : JV) (D E : Nat → Prop) (w : World) (v v2 : Value), Slim x → JAt D w v x → JAt E w v2 k → ∃ b, (b = true ↔ x = k) ∧ ∀ W, Keeps (fun _ => False) w W →
      Calls Tryz.prog 45 #[.agg #[v], .agg #[v2]] W fun e w' => e = .returned (.bool b) ∧ Keeps (fun _ => False) W w') →
      ∀ (k : JV) (D E : Nat → Prop) (w : World) (v v2 : Value), Slim j → JAt D w v j → JAt E w v2 k → ∃ b, (b = true ↔ j = k) ∧ ∀ W, Keeps (fun _ => False) w W →
      Calls Tryz.prog 45 #[.agg #[v], .agg #[v2]] W fun e w' => e = .returned (.bool b) ∧ Keeps (fun _ => False) W w' := by
    intro j ih k D E w v v2 hs h h2
    have hq : ∀ W, Keeps (fun _ => False) w W → ∃ T x T2 x2 A c A2 c2, v = .iface T x ∧ v2 = .iface T2 x2 ∧ SameQ W T x T2 x2 j k A c A2 c2 := fun W hW => sameQ (h.stay hW) (h2.stay hW) hs.len.2
    by_cases h3 : j.sort = k.sort
    · have hsq : (j.sort != k.sort) = false := by simp [h3]
      by_cases h4 : j.items.length = k.items.length
      · have hlq : ((j.items.length : Int) != (k.items.length : Int)) = false := by simp [h4]
        by_cases h5 : j.keys = k.keys
        · have hkq : decide (j.keys = k.keys) = true := by simp [h5]
          -- what a group needs
          have grp : ∃ n I ci I2 ci2, j.items.length = n ∧ k.items.length = n ∧ n ≤ 1099511627776 ∧ (∀ W, Keeps (fun _ => False) w W → Calls Tryz.prog 74 #[.agg #[v]] W fun e w' => e = .returned (.slice I n ci) ∧ Keeps (fun _ => False) W w') ∧
              (∀ W, Keeps (fun _ => False) w W → Calls Tryz.prog 74 #[.agg #[v2]] W fun e w' => e = .returned (.slice I2 n ci2) ∧ Keeps (fun _ => False) W w') ∧
              ∃ bb : Nat → Bool, ∀ W, Keeps (fun _ => False) w W → ∀ i, i < n → ∃ g o U y g2 o2 U2 y2 b, I = some ⟨g, o, none⟩ ∧ W.cell? ⟨g, o + i, none⟩ = some (.iface U y) ∧ I2 = some ⟨g2, o2, none⟩ ∧ W.cell? ⟨g2, o2 + i, none⟩ = some (.iface U2 y2) ∧ (b = true ↔ j.items[i]? = k.items[i]?) ∧
                ∀ W2, Keeps (fun _ => False) W W2 → Calls Tryz.prog 45 #[.agg #[.iface U y], .agg #[.iface U2 y2]] W2 fun e w' => e = .returned (.bool b) ∧ Keeps (fun _ => False) W2 w' := by
            obtain ⟨I, ci, vs, hit, hc⟩ := items_inv h
            obtain ⟨I2, ci2, vs2, hit2, hc2⟩ := items_inv h2
            refine ⟨_, I, ci, I2, ci2, rfl, h4.symm, hs.len.1, hc, by rw [h4]; exact hc2, fun _ => true, fun W hW i hi => ?_⟩
            obtain ⟨g, o, rfl, q1⟩ := hit.rd.2 (by omega)
            obtain ⟨g2, o2, rfl, q2⟩ := hit2.rd.2 (by omega)
            obtain ⟨a, ha⟩ : ∃ a, vs[i]? = some a := ⟨_, List.getElem?_eq_getElem (by rw [hit.rd.1]; exact hi)⟩
            obtain ⟨a2, ha2⟩ : ∃ a, vs2[i]? = some a := ⟨_, List.getElem?_eq_getElem (by rw [hit2.rd.1]; omega)⟩
            obtain ⟨z, hz⟩ : ∃ a, j.items[i]? = some a := ⟨_, List.getElem?_eq_getElem hi⟩
            obtain ⟨z2, hz2⟩ : ∃ a, k.items[i]? = some a := ⟨_, List.getElem?_eq_getElem (by omega)⟩
            have r1 := hit.at_ i a z ha hz
            have r2 := hit2.at_ i a2 z2 ha2 hz2
            obtain ⟨b, hb, hcall⟩ := ih z (List.mem_of_getElem? hz) z2 D E w a a2 (hs.items z (List.mem_of_getElem? hz)) r1 r2
            obtain ⟨U, y, rfl⟩ := r1.iface
            obtain ⟨U2, y2, rfl⟩ := r2.iface
            refine ⟨g, o, U, y, g2, o2, U2, y2, b, rfl, cell_keep hW ((q1 i hi).trans ha), rfl, cell_keep hW ((q2 i (by omega)).trans ha2), ?_, fun W2 hW2 => hcall W2 (hW.trans hW2 (fun _ _ h => h))⟩
            rw [hz, hz2, hb]
            exact ⟨fun e => by rw [e], fun e => by injection e⟩
          have hex : ∀ {T x T2 x2}, v = .iface T x → v2 = .iface T2 x2 → ∀ W, Keeps (fun _ => False) w W → ∃ A c A2 c2, SameQ W T x T2 x2 j k A c A2 c2 := fun {T x T2 x2} e1 e2 W hW => by
            obtain ⟨T', x', T2', x2', A, c, A2, c2, e3, e4, hQ⟩ := hq W hW
            rw [e1] at e3
            rw [e2] at e4
            cases e3
            cases e4
            exact ⟨A, c, A2, c2, hQ⟩
          cases h with
          | null =>
            cases h2 with
            | null =>
              refine ⟨true, by simp, fun W hW => ?_⟩
              obtain ⟨A, c, A2, c2, hQ⟩ := hex rfl rfl W hW
              exact same_scalar W _ _ _ _ _ _ A c A2 c2 hQ hsq hlq hkq (fun W => as_null_list _ W) (fun W => as_null_obj _ W) (true) (fun W => bo_null W)
            | _ => exact absurd h3 (by simp [JV.sort])
          | flag b =>
            cases h2 with
            | flag b2 =>
              refine ⟨b == b2, by simp, fun W hW => ?_⟩
              obtain ⟨A, c, A2, c2, hQ⟩ := hex rfl rfl W hW
              exact same_scalar W _ _ _ _ _ _ A c A2 c2 hQ hsq hlq hkq (fun W => as_flag_list _ W) (fun W => as_flag_obj _ W) (b == b2) (fun W => bo_flag W b b2)
            | _ => exact absurd h3 (by simp [JV.sort])
          | num b hf hz hl =>
            cases h2 with
            | num b2 hf2 hz2 hl2 =>
              refine ⟨Ieee.double.order b b2 == some .eq, by rw [Go.Flt.order_eq hf hf2 hl hl2 hz hz2]; simp, fun W hW => ?_⟩
              obtain ⟨A, c, A2, c2, hQ⟩ := hex rfl rfl W hW
              exact same_scalar W _ _ _ _ _ _ A c A2 c2 hQ hsq hlq hkq (fun W => as_num_list _ W) (fun W => as_num_obj _ W) (Ieee.double.order b b2 == some .eq) (fun W => bo_num W b b2)
            | _ => exact absurd h3 (by simp [JV.sort])
          | text s =>
            cases h2 with
            | text s2 =>
              refine ⟨s == s2, by rw [ba_beq]; simp, fun W hW => ?_⟩
              obtain ⟨A, c, A2, c2, hQ⟩ := hex rfl rfl W hW
              exact same_scalar W _ _ _ _ _ _ A c A2 c2 hQ hsq hlq hkq (fun W => as_text_list _ W) (fun W => as_text_obj _ W) (s == s2) (fun W => bo_text W s s2)
            | _ => exact absurd h3 (by simp [JV.sort])
          | @list bb A c vs l hD hb hr ho hl =>
            cases h2 with
            | @list bb2 A2 c2 vs2 l2 hD2 hb2 hr2 ho2 hl2 =>
              obtain ⟨n, I, ci, I2, ci2, hn, hn2, hnb, i1, i2, _, hI⟩ := grp
              have hd : ∃ b : Bool, b = true ↔ l = l2 := ⟨@decide (l = l2) (Classical.propDecidable _), by simp⟩
              obtain ⟨b, hbe⟩ := hd
              refine ⟨b, by rw [hbe]; simp, fun W hW => ?_⟩
              obtain ⟨A, c, A2, c2, hQ⟩ := hex rfl rfl W hW
              refine (same_list W _ _ _ _ _ _ A c A2 c2 hQ hsq hlq hkq (fun W => as_list_list _ W) (fun W => as_list_obj _ W) n hn hn2 hnb I ci I2 ci2 (fun W2 hW2 => i1 W2 (hW.trans hW2 (fun _ _ h => h))) (fun W2 hW2 => i2 W2 (hW.trans hW2 (fun _ _ h => h))) (hI W hW)).mono fun e w' hh => ?_
              obtain ⟨⟨b', he, hb'⟩, hk'⟩ := hh
              refine ⟨?_, hk'⟩
              rw [he]
              congr 2
              exact Bool.eq_iff_iff.2 (hb'.trans hbe.symm)
            | _ => exact absurd h3 (by simp [JV.sort])
          | @obj bb A B c d vs ks l hD hb hk hok hr ho hl =>
            cases h2 with
            | @obj bb2 A2 B2 c2 d2 vs2 ks2 l2 hD2 hb2 hk2 hok2 hr2 ho2 hl2 =>
              obtain ⟨n, I, ci, I2, ci2, hn, hn2, hnb, i1, i2, _, hI⟩ := grp
              have hd : ∃ b : Bool, b = true ↔ l = l2 := ⟨@decide (l = l2) (Classical.propDecidable _), by simp⟩
              obtain ⟨b, hbe⟩ := hd
              refine ⟨b, by rw [hbe]; have h5' : ks = ks2 := h5; simp [h5'], fun W hW => ?_⟩
              obtain ⟨A, c, A2, c2, hQ⟩ := hex rfl rfl W hW
              refine (same_object W _ _ _ _ _ _ A c A2 c2 hQ hsq hlq hkq (fun W => as_obj_list _ W) (fun W => as_obj_obj _ W) n hn hn2 hnb I ci I2 ci2 (fun W2 hW2 => i1 W2 (hW.trans hW2 (fun _ _ h => h))) (fun W2 hW2 => i2 W2 (hW.trans hW2 (fun _ _ h => h))) (hI W hW)).mono fun e w' hh => ?_
              obtain ⟨⟨b', he, hb'⟩, hk'⟩ := hh
              refine ⟨?_, hk'⟩
              rw [he]
              congr 2
              exact Bool.eq_iff_iff.2 (hb'.trans hbe.symm)
            | _ => exact absurd h3 (by simp [JV.sort])
        · refine ⟨false, by simp; rintro rfl; exact h5 rfl, fun W hW => ?_⟩
          obtain ⟨T, x, T2, x2, A, c, A2, c2, rfl, rfl, hQ⟩ := hq W hW
          exact same_keys W _ _ _ _ _ _ A c A2 c2 hQ hsq hlq (by simp [h5])
      · refine ⟨false, by simp; rintro rfl; exact h4 rfl, fun W hW => ?_⟩
        obtain ⟨T, x, T2, x2, A, c, A2, c2, rfl, rfl, hQ⟩ := hq W hW
        exact same_lens W _ _ _ _ _ _ A c A2 c2 hQ hsq (by simp; omega)
    · refine ⟨false, by simp; rintro rfl; exact h3 rfl, fun W hW => ?_⟩
      obtain ⟨T, x, T2, x2, A, c, A2, c2, rfl, rfl, hQ⟩ := hq W hW
      exact same_sorts W _ _ _ _ _ _ A c A2 c2 hQ (by simp [h3])
  refine JV.ind (P := fun j => ∀ (k : JV) (D E : Nat → Prop) (w : World) (v v2 : Value), Slim j → JAt D w v j → JAt E w v2 k → ∃ b, (b = true ↔ j = k) ∧ ∀ W, Keeps (fun _ => False) w W →
    Calls Tryz.prog 45 #[.agg #[v], .agg #[v2]] W fun e w' => e = .returned (.bool b) ∧ Keeps (fun _ => False) W w') ?_ ?_ ?_ ?_ ?_ ?_ j
  · exact main _ fun x hx => by cases hx
  · exact fun b => main _ fun x hx => by cases hx
  · exact fun b => main _ fun x hx => by cases hx
  · exact fun b => main _ fun x hx => by cases hx
  · exact fun l ih => main _ ih
  · exact fun ks l ih => main _ ih
set_option maxRecDepth 100000 in
/-- Whether two trees are of one value. -/
theorem tsame_any {D E : Nat → Prop} {w : World} {p q : Nat} {v v2 : Value} {j k : JV} (hs : Slim j) (h : TreeAt D w p v j) (h2 : TreeAt E w q v2 k) : ∃ b, (b = true ↔ j = k) ∧ ∀ W, Keeps (fun _ => False) w W →
    Calls Tryz.prog 15 #[.pointer (some ⟨p, 0, none⟩), .pointer (some ⟨q, 0, none⟩)] W fun e w' => e = .returned (.bool b) ∧ Keeps (fun _ => False) W w' := by
  obtain ⟨b, hb, hc⟩ := same_any j k D E w v v2 hs h.2.2 h2.2.2
  refine ⟨b, hb, fun W hW => ?_⟩
  obtain ⟨T, x, rfl⟩ := h.2.2.iface
  obtain ⟨T2, x2, rfl⟩ := h2.2.2.iface
  have HC := Lib.hid hc
  have HR1 : Hid (∀ W, Keeps (fun _ => False) w W → Calls Tryz.prog 38 #[.pointer (some ⟨p, 0, none⟩)] W fun e w' => e = .returned (.agg #[.iface T x]) ∧ Keeps (fun _ => False) W w') := Lib.hid fun W hW => root_any W p T x (hW.blk h.2.1 (fun h => h))
  have HR2 : Hid (∀ W, Keeps (fun _ => False) w W → Calls Tryz.prog 38 #[.pointer (some ⟨q, 0, none⟩)] W fun e w' => e = .returned (.agg #[.iface T2 x2]) ∧ Keeps (fun _ => False) W w') := Lib.hid fun W hW => root_any W q T2 x2 (hW.blk h2.2.1 (fun h => h))
  have HK := Lib.hid hW
  have tk : True := trivial
  clear h h2 hc hb hs hW
  go_enter Tryz.func15, Tryz.ntmps15
  go_wp2_with (first
    | (go_at_call 38; have _t := tk; clear tk; refine (HR1.out _ HK.out).mono ?_; rintro e w1 ⟨rfl, hk1⟩; have HK1 := Lib.hid hk1; clear hk1 _t)
    | (go_at_call 38; refine (HR2.out _ (HK.out.trans HK1.out (fun _ _ h => h))).mono ?_; rintro e w2 ⟨rfl, hk2⟩; have HK2 := Lib.hid (HK1.out.trans hk2 (fun _ _ h => h)); clear hk2)
    | (go_at_call 45; refine (HC.out _ (HK.out.trans HK2.out (fun _ _ h => h))).mono ?_; rintro e w3 ⟨rfl, hk3⟩; have HK3 := Lib.hid (HK2.out.trans hk3 (fun _ _ h => h)); clear hk3))
  go_ret
  exact ⟨rfl, HK3.out⟩
end Go.Proofs.YtdmcioghdindfaaGreatDoor
