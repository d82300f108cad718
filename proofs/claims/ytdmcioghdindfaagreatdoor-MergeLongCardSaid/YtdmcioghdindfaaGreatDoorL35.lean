/- Texts. -/
import Derived.Test.YtdmcioghdindfaaGreatDoorL34
import Derived.Lib.Replace
import Derived.Lib.LazyBuf
import Derived.Shelf.Strings.Builder1
import Derived.Shelf.Strings.Builder2
import Derived.Shelf.Strings.Search1
import Derived.Shelf.Strings.Search2
import Derived.Shelf.Strings.Search3
import Derived.Shelf.Strings.Count
import Derived.Shelf.Strings.Split
import Derived.Shelf.Strings.Replace
import Derived.Shelf.Strings.RuneCount
import Derived.Lib.ReplaceLaws
set_option linter.unusedSimpArgs false
set_option maxRecDepth 100000
set_option maxHeartbeats 4000000
namespace Go.Json
inductive Slim : JV → Prop
 | mk (j : JV) (h1 : j.items.length ≤ 1099511627776) (h2 : j.keys.length ≤ 1099511627776) (h : ∀ x, x ∈ j.items → Slim x) : Slim j
theorem Slim.items {j : JV} (h : Slim j) : ∀ x, x ∈ j.items → Slim x := by cases h; assumption
theorem Slim.len {j : JV} (h : Slim j) : j.items.length ≤ 1099511627776 ∧ j.keys.length ≤ 1099511627776 := by
 cases h
 exact ⟨by assumption, by assumption⟩
end Go.Json
namespace Go.Proofs.YtdmcioghdindfaaGreatDoor
open Go Go.RowKit Go.Aff Go.Json Go.Shelf
theorem bo_null (w : World) : (binOp .eql 79 (.iface 166 (.agg #[])) (.iface 166 (.agg #[]))).run Tryz.prog w = .ok (.bool true) w := by kernel_rfl
theorem bo_flag (w : World) (a b : Bool) : (binOp .eql 79 (.iface 167 (.bool a)) (.iface 167 (.bool b))).run Tryz.prog w = .ok (.bool (a == b)) w := by kernel_rfl
theorem bo_num (w : World) (a b : Nat) : (binOp .eql 79 (.iface 172 (.float .f64 a)) (.iface 172 (.float .f64 b))).run Tryz.prog w = .ok (.bool (Ieee.double.order a b == some .eq)) w := by kernel_rfl
theorem bo_text (w : World) (a b : ByteArray) : (binOp .eql 79 (.iface 173 (.string a)) (.iface 173 (.string b))).run Tryz.prog w = .ok (.bool (a == b)) w := by kernel_rfl
theorem ba_beq (a b : ByteArray) : (a == b) = true ↔ a = b := by
 cases a with | mk a => cases b with | mk b =>
  show (a == b) = true ↔ _
  rw [beq_iff_eq]
  simp
theorem same_any (j : JV) : ∀ (k : JV) (D E : Nat → Prop) (w : World) (v v2 : Value), Slim j → JAt D w v j → JAt E w v2 k → ∃ b, (b = true ↔ j = k) ∧ ∀ W, Keeps (fun _ => False) w W →
  Calls Tryz.prog 45 #[.agg #[v], .agg #[v2]] W fun e w' => e = .returned (.bool b) ∧ Keeps (fun _ => False) W w' := by
 have main : ∀ (j : JV), (∀ x, x ∈ j.items → ∀ (k : JV) (D E : Nat → Prop) (w : World) (v v2 : Value), Slim x → JAt D w v x → JAt E w v2 k → ∃ b, (b = true ↔ x = k) ∧ ∀ W, Keeps (fun _ => False) w W →
   Calls Tryz.prog 45 #[.agg #[v], .agg #[v2]] W fun e w' => e = .returned (.bool b) ∧ Keeps (fun _ => False) W w') →
   ∀ (k : JV) (D E : Nat → Prop) (w : World) (v v2 : Value), Slim j → JAt D w v j → JAt E w v2 k → ∃ b, (b = true ↔ j = k) ∧ ∀ W, Keeps (fun _ => False) w W →
   Calls Tryz.prog 45 #[.agg #[v], .agg #[v2]] W fun e w' => e = .returned (.bool b) ∧ Keeps (fun _ => False) W w' := by
  intro j ih k D E w v v2 hs h h2
  have hq : ∀ W, Keeps (fun _ => False) w W → ∃ T x T2 x2 A c A2 c2, v = .iface T x ∧ v2 = .iface T2 x2 ∧ SameQ W T x T2 x2 j k A c A2 c2 := fun W hW => sameQ (h.stay hW) (h2.stay hW) hs.len.2
  by_cases h3 : j.sort = k.sort
  ·have hsq : (j.sort != k.sort) = false := by simp [h3]
   by_cases h4 : j.items.length = k.items.length
   ·have hlq : ((j.items.length : Int) != (k.items.length : Int)) = false := by simp [h4]
    by_cases h5 : j.keys = k.keys
    ·have hkq : decide (j.keys = k.keys) = true := by simp [h5]
     -- what a group needs
     have grp : ∃ n I ci I2 ci2, j.items.length = n ∧ k.items.length = n ∧ n ≤ 1099511627776 ∧ (∀ W, Keeps (fun _ => False) w W → Calls Tryz.prog 74 #[.agg #[v]] W fun e w' => e = .returned (.slice I n ci) ∧ Keeps (fun _ => False) W w') ∧
       (∀ W, Keeps (fun _ => False) w W → Calls Tryz.prog 74 #[.agg #[v2]] W fun e w' => e = .returned (.slice I2 n ci2) ∧ Keeps (fun _ => False) W w') ∧
       ∃ bb : Nat → Bool, ∀ W, Keeps (fun _ => False) w W → ∀ i, i < n → ∃ g o U y g2 o2 U2 y2 b, I = some ⟨g, o, none⟩ ∧ W.cell? ⟨g, o + i, none⟩ = some (.iface U y) ∧ I2 = some ⟨g2, o2, none⟩ ∧ W.cell? ⟨g2, o2 + i, none⟩ = some (.iface U2 y2) ∧ (b = true ↔ j.items[i]? = k.items[i]?) ∧
        ∀ W2, Keeps (fun _ => False) W W2 → Calls Tryz.prog 45 #[.agg #[.iface U y], .agg #[.iface U2 y2]] W2 fun e w' => e = .returned (.bool b) ∧ Keeps (fun _ => False) W2 w' := by
      obtain ⟨I, ci, vs, hit, hc⟩ := items_inv h
      obtain ⟨I2, ci2, vs2, hit2, hc2⟩ := items_inv h2
      refine ⟨_, I, ci, I2, ci2, rfl, h4.symm, hs.len.1, hc, by rw [h4]; exact hc2, fun _ => true, fun W hW i hi => ?_⟩
      obtain ⟨g, o, rfl, q1⟩ := hit.rd.2 (by omega)
      obtain ⟨g2, o2, rfl, q2⟩ := hit2.rd.2 (by omega)
      obtain ⟨a, ha⟩ : ∃ a, vs[i]? = some a := ⟨_, List.getElem?_eq_getElem (by rw [hit.rd.1]; exact hi)⟩
      obtain ⟨a2, ha2⟩ : ∃ a, vs2[i]? = some a := ⟨_, List.getElem?_eq_getElem (by rw [hit2.rd.1]; omega)⟩
      obtain ⟨z, hz⟩ : ∃ a, j.items[i]? = some a := ⟨_, List.getElem?_eq_getElem hi⟩
      obtain ⟨z2, hz2⟩ : ∃ a, k.items[i]? = some a := ⟨_, List.getElem?_eq_getElem (by omega)⟩
      have r1 := hit.at_ i a z ha hz
      have r2 := hit2.at_ i a2 z2 ha2 hz2
      obtain ⟨b, hb, hcall⟩ := ih z (List.mem_of_getElem? hz) z2 D E w a a2 (hs.items z (List.mem_of_getElem? hz)) r1 r2
      obtain ⟨U, y, rfl⟩ := r1.iface
      obtain ⟨U2, y2, rfl⟩ := r2.iface
      refine ⟨g, o, U, y, g2, o2, U2, y2, b, rfl, cell_keep hW ((q1 i hi).trans ha), rfl, cell_keep hW ((q2 i (by omega)).trans ha2), ?_, fun W2 hW2 => hcall W2 (hW.trans hW2 (fun _ _ h => h))⟩
      rw [hz, hz2, hb]
      exact ⟨fun e => by rw [e], fun e => by injection e⟩
     have hex : ∀ {T x T2 x2}, v = .iface T x → v2 = .iface T2 x2 → ∀ W, Keeps (fun _ => False) w W → ∃ A c A2 c2, SameQ W T x T2 x2 j k A c A2 c2 := fun {T x T2 x2} e1 e2 W hW => by
      obtain ⟨T', x', T2', x2', A, c, A2, c2, e3, e4, hQ⟩ := hq W hW
      rw [e1] at e3
      rw [e2] at e4
      cases e3
      cases e4
      exact ⟨A, c, A2, c2, hQ⟩
     cases h with
     | null =>
      cases h2 with
      | null =>
       refine ⟨true, by simp, fun W hW => ?_⟩
       obtain ⟨A, c, A2, c2, hQ⟩ := hex rfl rfl W hW
       exact same_scalar W _ _ _ _ _ _ A c A2 c2 hQ hsq hlq hkq (fun W => as_null_list _ W) (fun W => as_null_obj _ W) (true) (fun W => bo_null W)
      | _ => exact absurd h3 (by simp [JV.sort])
     | flag b =>
      cases h2 with
      | flag b2 =>
       refine ⟨b == b2, by simp, fun W hW => ?_⟩
       obtain ⟨A, c, A2, c2, hQ⟩ := hex rfl rfl W hW
       exact same_scalar W _ _ _ _ _ _ A c A2 c2 hQ hsq hlq hkq (fun W => as_flag_list _ W) (fun W => as_flag_obj _ W) (b == b2) (fun W => bo_flag W b b2)
      | _ => exact absurd h3 (by simp [JV.sort])
     | num b hf hz hl =>
      cases h2 with
      | num b2 hf2 hz2 hl2 =>
       refine ⟨Ieee.double.order b b2 == some .eq, by rw [Go.Flt.order_eq hf hf2 hl hl2 hz hz2]; simp, fun W hW => ?_⟩
       obtain ⟨A, c, A2, c2, hQ⟩ := hex rfl rfl W hW
       exact same_scalar W _ _ _ _ _ _ A c A2 c2 hQ hsq hlq hkq (fun W => as_num_list _ W) (fun W => as_num_obj _ W) (Ieee.double.order b b2 == some .eq) (fun W => bo_num W b b2)
      | _ => exact absurd h3 (by simp [JV.sort])
     | text s =>
      cases h2 with
      | text s2 =>
       refine ⟨s == s2, by rw [ba_beq]; simp, fun W hW => ?_⟩
       obtain ⟨A, c, A2, c2, hQ⟩ := hex rfl rfl W hW
       exact same_scalar W _ _ _ _ _ _ A c A2 c2 hQ hsq hlq hkq (fun W => as_text_list _ W) (fun W => as_text_obj _ W) (s == s2) (fun W => bo_text W s s2)
      | _ => exact absurd h3 (by simp [JV.sort])
     | @list bb A c vs l hD hb hr ho hl =>
      cases h2 with
      | @list bb2 A2 c2 vs2 l2 hD2 hb2 hr2 ho2 hl2 =>
       obtain ⟨n, I, ci, I2, ci2, hn, hn2, hnb, i1, i2, _, hI⟩ := grp
       have hd : ∃ b : Bool, b = true ↔ l = l2 := ⟨@decide (l = l2) (Classical.propDecidable _), by simp⟩
       obtain ⟨b, hbe⟩ := hd
       refine ⟨b, by rw [hbe]; simp, fun W hW => ?_⟩
       obtain ⟨A, c, A2, c2, hQ⟩ := hex rfl rfl W hW
       refine (same_list W _ _ _ _ _ _ A c A2 c2 hQ hsq hlq hkq (fun W => as_list_list _ W) (fun W => as_list_obj _ W) n hn hn2 hnb I ci I2 ci2 (fun W2 hW2 => i1 W2 (hW.trans hW2 (fun _ _ h => h))) (fun W2 hW2 => i2 W2 (hW.trans hW2 (fun _ _ h => h))) (hI W hW)).mono fun e w' hh => ?_
       obtain ⟨⟨b', he, hb'⟩, hk'⟩ := hh
       refine ⟨?_, hk'⟩
       rw [he]
       congr 2
       exact Bool.eq_iff_iff.2 (hb'.trans hbe.symm)
      | _ => exact absurd h3 (by simp [JV.sort])
     | @obj bb A B c d vs ks l hD hb hk hok hr ho hl =>
      cases h2 with
      | @obj bb2 A2 B2 c2 d2 vs2 ks2 l2 hD2 hb2 hk2 hok2 hr2 ho2 hl2 =>
       obtain ⟨n, I, ci, I2, ci2, hn, hn2, hnb, i1, i2, _, hI⟩ := grp
       have hd : ∃ b : Bool, b = true ↔ l = l2 := ⟨@decide (l = l2) (Classical.propDecidable _), by simp⟩
       obtain ⟨b, hbe⟩ := hd
       refine ⟨b, by rw [hbe]; have h5' : ks = ks2 := h5; simp [h5'], fun W hW => ?_⟩
       obtain ⟨A, c, A2, c2, hQ⟩ := hex rfl rfl W hW
       refine (same_object W _ _ _ _ _ _ A c A2 c2 hQ hsq hlq hkq (fun W => as_obj_list _ W) (fun W => as_obj_obj _ W) n hn hn2 hnb I ci I2 ci2 (fun W2 hW2 => i1 W2 (hW.trans hW2 (fun _ _ h => h))) (fun W2 hW2 => i2 W2 (hW.trans hW2 (fun _ _ h => h))) (hI W hW)).mono fun e w' hh => ?_
       obtain ⟨⟨b', he, hb'⟩, hk'⟩ := hh
       refine ⟨?_, hk'⟩
       rw [he]
       congr 2
       exact Bool.eq_iff_iff.2 (hb'.trans hbe.symm)
      | _ => exact absurd h3 (by simp [JV.sort])
    refine ⟨false, by simp; rintro rfl; exact h5 rfl, fun W hW => ?_⟩
    obtain ⟨T, x, T2, x2, A, c, A2, c2, rfl, rfl, hQ⟩ := hq W hW
    exact same_keys W _ _ _ _ _ _ A c A2 c2 hQ hsq hlq (by simp [h5])
   refine ⟨false, by simp; rintro rfl; exact h4 rfl, fun W hW => ?_⟩
   obtain ⟨T, x, T2, x2, A, c, A2, c2, rfl, rfl, hQ⟩ := hq W hW
   exact same_lens W _ _ _ _ _ _ A c A2 c2 hQ hsq (by simp; omega)
  refine ⟨false, by simp; rintro rfl; exact h3 rfl, fun W hW => ?_⟩
  obtain ⟨T, x, T2, x2, A, c, A2, c2, rfl, rfl, hQ⟩ := hq W hW
  exact same_sorts W _ _ _ _ _ _ A c A2 c2 hQ (by simp [h3])
 refine JV.ind (P := fun j => ∀ (k : JV) (D E : Nat → Prop) (w : World) (v v2 : Value), Slim j → JAt D w v j → JAt E w v2 k → ∃ b, (b = true ↔ j = k) ∧ ∀ W, Keeps (fun _ => False) w W →
  Calls Tryz.prog 45 #[.agg #[v], .agg #[v2]] W fun e w' => e = .returned (.bool b) ∧ Keeps (fun _ => False) W w') ?_ ?_ ?_ ?_ ?_ ?_ j
 ·exact main _ fun x hx => by cases hx
 ·exact fun b => main _ fun x hx => by cases hx
 ·exact fun b => main _ fun x hx => by cases hx
 ·exact fun b => main _ fun x hx => by cases hx
 ·exact fun l ih => main _ ih
 exact fun ks l ih => main _ ih
theorem tsame_any {D E : Nat → Prop} {w : World} {p q : Nat} {v v2 : Value} {j k : JV} (hs : Slim j) (h : TreeAt D w p v j) (h2 : TreeAt E w q v2 k) : ∃ b, (b = true ↔ j = k) ∧ ∀ W, Keeps (fun _ => False) w W →
  Calls Tryz.prog 15 #[.pointer (some ⟨p, 0, none⟩), .pointer (some ⟨q, 0, none⟩)] W fun e w' => e = .returned (.bool b) ∧ Keeps (fun _ => False) W w' := by
 obtain ⟨b, hb, hc⟩ := same_any j k D E w v v2 hs h.2.2 h2.2.2
 refine ⟨b, hb, fun W hW => ?_⟩
 obtain ⟨T, x, rfl⟩ := h.2.2.iface
 obtain ⟨T2, x2, rfl⟩ := h2.2.2.iface
 have HC := H_ hc
 have HR1 : Hid (∀ W, Keeps (fun _ => False) w W → Calls Tryz.prog 38 #[.pointer (some ⟨p, 0, none⟩)] W fun e w' => e = .returned (.agg #[.iface T x]) ∧ Keeps (fun _ => False) W w') := H_ fun W hW => root_any W p T x (hW.blk h.2.1 (fun h => h))
 have HR2 : Hid (∀ W, Keeps (fun _ => False) w W → Calls Tryz.prog 38 #[.pointer (some ⟨q, 0, none⟩)] W fun e w' => e = .returned (.agg #[.iface T2 x2]) ∧ Keeps (fun _ => False) W w') := H_ fun W hW => root_any W q T2 x2 (hW.blk h2.2.1 (fun h => h))
 have HK := H_ hW
 have tk : True := trivial
 clear h h2 hc hb hs hW
 go_enter Tryz.func15, Tryz.ntmps15
 go_wp2_with (first
  | (go_at_call 38; have _t := tk; clear tk; refine (HR1.out _ HK.out).mono ?_; rintro e w1 ⟨rfl, hk1⟩; have HK1 := H_ hk1; clear hk1 _t)
  | (go_at_call 38; refine (HR2.out _ (HK.out.trans HK1.out (fun _ _ h => h))).mono ?_; rintro e w2 ⟨rfl, hk2⟩; have HK2 := H_ (HK1.out.trans hk2 (fun _ _ h => h)); clear hk2)
  | (go_at_call 45; refine (HC.out _ (HK.out.trans HK2.out (fun _ _ h => h))).mono ?_; rintro e w3 ⟨rfl, hk3⟩; have HK3 := H_ (HK2.out.trans hk3 (fun _ _ h => h)); clear hk3))
 go_ret
 exact ⟨rfl, HK3.out⟩
end Go.Proofs.YtdmcioghdindfaaGreatDoor
namespace Go.Proofs.YtdmcioghdindfaaGreatDoor
open Go Go.RowKit Go.Aff Go.Json Go.Rng
attribute [local go_sem] Oper.semAt_some
theorem refOf_any {D : Nat → Prop} (w : World) (v : Value) (j : JV) (h : TAtR D w v j) : ∃ T y, JAt D w (.iface T y) j ∧ ∀ W, Keeps (fun _ => False) w W → Calls Tryz.prog 55 #[v] W fun e w' => e = .returned (.agg #[.iface T y]) ∧ Keeps (fun _ => False) W w' := by
 rcases h.ref with ⟨it, rfl, hj⟩ | ⟨b, rf, a1, a2, rfl, hb, hj⟩
 ·obtain ⟨T, y, rfl⟩ := hj.iface
  refine ⟨T, y, hj, fun W _ => ?_⟩
  have HA := as_whole_whole (.agg #[.iface T y])
  have hb0 := Blk.new W 81 [.nilIface]
  have HB0 := H_ ((Blk.new W 81 [.iface T y]).alloc (.cells #[.iface T y] 150))
  have HK := H_ (((Keeps.refl (fun _ => False) W).alloc (.cells #[.iface T y] 81)).alloc (.cells #[.iface T y] 150))
  have c1 := (Blk.new (W.alloc (.cells #[.nilIface] 81)) 150 [.iface T y]).cell 0
  have f1 := (Blk.new (W.alloc (.cells #[.nilIface] 81)) 150 [.nilIface]).frozen 0
  have f0 := (hb0.alloc (.cells #[.iface T y] 150)).frozen 0
  have d0 := (hb0.alloc (.cells #[.iface T y] 150)).cell 0
  clear hj h hb0
  go_enter Tryz.func55, Tryz.ntmps55
  go_wp2
  exact bodyPost_ret (results_blk rfl _ _ rfl HB0.out Tryz.underlying81 rfl (by kernel_rfl)) rfl ⟨rfl, HK.out⟩
 obtain ⟨T, y, rfl⟩ := hj.iface
 refine ⟨T, y, hj, fun W hW => ?_⟩
 have HA0 := as_mobj_whole (.pointer (some ⟨b, 0, none⟩))
 have HA1 := as_mobj_mobj (.pointer (some ⟨b, 0, none⟩))
 have hbW := hW.blk hb (fun h => h)
 have c1 := (hbW.alloc (.cells #[.nilIface] 81)).cell 0
 have f0 := (Blk.new W 81 [.nilIface]).frozen 0
 have HB0 := H_ (Blk.new W 81 [.iface T y])
 have HK := H_ ((Keeps.refl (fun _ => False) W).alloc (.cells #[.iface T y] 81))
 clear hj h hb hbW hW
 go_enter Tryz.func55, Tryz.ntmps55
 go_wp2
 exact bodyPost_ret (results_blk rfl _ _ rfl HB0.out Tryz.underlying81 rfl (by kernel_rfl)) rfl ⟨rfl, HK.out⟩
def SameP (w : World) (o1 o2 : Option JV) (e : Ending) (w' : World) : Prop := ∃ b, e = .returned (.bool b) ∧ (b = true ↔ o1 = o2) ∧ Keeps (fun _ => False) w w'
theorem msame_any {D : Nat → Prop} (w : World) (v v2 : Value) (o1 o2 : Option JV) (h : OAtR D w v o1) (h2 : OAtR D w v2 o2) (hs : ∀ x, o1 = some x → Slim x) : Calls Tryz.prog 29 #[v, v2] w (SameP w o1 o2) := by
 unfold SameP
 cases o1 with
 | none =>
  have hv : v = .nilIface := h
  subst hv
  cases o2 with
  | none =>
   have hv : v2 = .nilIface := h2
   subst hv
   clear h h2 hs
   go_enter Tryz.func29, Tryz.ntmps29
   go_wp2
   go_ret
   exact ⟨true, rfl, by simp, Keeps.refl _ _⟩
  | some y =>
   obtain ⟨T, z, hz⟩ := TAtR.iface h2
   subst hz
   clear h h2 hs
   go_enter Tryz.func29, Tryz.ntmps29
   go_wp2
   go_ret
   exact ⟨false, rfl, ⟨fun h => (by cases h), fun h => (by cases h)⟩, Keeps.refl _ _⟩
 | some x =>
  have h' : TAtR D w v x := h
  obtain ⟨T1, z1, hz1⟩ := h'.iface
  cases o2 with
  | none =>
   have hv : v2 = .nilIface := h2
   subst hv hz1
   clear h h2 hs h'
   go_enter Tryz.func29, Tryz.ntmps29
   go_wp2
   go_ret
   exact ⟨false, rfl, ⟨fun h => (by cases h), fun h => (by cases h)⟩, Keeps.refl _ _⟩
  | some y =>
   have h2' : TAtR D w v2 y := h2
   obtain ⟨T2, z2, hz2⟩ := h2'.iface
   obtain ⟨R1, y1, hj1, hc1⟩ := refOf_any w v x h'
   obtain ⟨R2, y2, hj2, hc2⟩ := refOf_any w v2 y h2'
   obtain ⟨b, hb, hsame⟩ := same_any x y D D w (.iface R1 y1) (.iface R2 y2) (hs x rfl) hj1 hj2
   subst hz1 hz2
   have HB := H_ hb
   have HC1 := H_ (hc1 w (Keeps.refl _ _))
   have HC2 : Hid (∀ W, Keeps (fun _ => False) w W → Calls Tryz.prog 55 #[.iface T2 z2] W fun e w' => e = .returned (.agg #[.iface R2 y2]) ∧ Keeps (fun _ => False) w w') := H_ fun W hW => (hc2 W hW).mono fun e w' h => ⟨h.1, hW.trans h.2 fun _ _ h => h⟩
   have HS : Hid (∀ W, Keeps (fun _ => False) w W → Calls Tryz.prog 45 #[.agg #[.iface R1 y1], .agg #[.iface R2 y2]] W fun e w' => e = .returned (.bool b) ∧ Keeps (fun _ => False) w w') := H_ fun W hW => (hsame W hW).mono fun e w' h => ⟨h.1, hW.trans h.2 fun _ _ h => h⟩
   clear h h2 hs h' h2' hb hc1 hc2 hj1 hj2 hsame
   have tk : True := trivial
   go_enter Tryz.func29, Tryz.ntmps29
   go_wp2_with (first
    | (go_at_call 55; have _t := tk; clear tk; refine HC1.out.mono ?_; rintro e w1 ⟨rfl, hk1⟩; have HK1 := H_ hk1; clear hk1)
    | (go_at_call 55; refine (HC2.out _ HK1.out).mono ?_; rintro e w2 ⟨rfl, hk2⟩; have HK2 := H_ hk2; clear hk2)
    | (go_at_call 45; refine (HS.out _ HK2.out).mono ?_; rintro e w3 ⟨rfl, hk3⟩; have HK3 := H_ hk3; clear hk3))
   go_ret
   exact ⟨b, rfl, HB.out.trans ⟨fun h => by rw [h], fun h => by injection h⟩, HK3.out⟩
end Go.Proofs.YtdmcioghdindfaaGreatDoor
namespace Go.Json
open Go.Lib
theorem replaceK_cons_ne (c b : UInt8) (new l : List UInt8) (h : b ≠ c) (k : Nat) (hk : k = count l [c]) : replaceK [c] new k (b :: l) = b :: replaceK [c] new k l := by
 cases k with
 | zero => simp [replaceK]
 | succ k =>
  obtain ⟨i, hi⟩ := index_of_count (s := l) (old := [c]) (by omega)
  have h2 : index (b :: l) [c] = ((i + 1 : Nat) : Int) := by
   have h3 : index (b :: l) [c] = if index l [c] == -1 then -1 else index l [c] + 1 := by
    simp only [index]
    rw [if_neg (by simp [Ne.symm h])]
   rw [h3, hi, if_neg (by simp)]
   push_cast; rfl
  rw [replaceK_hit _ _ _ _ _ h2, replaceK_hit _ _ _ _ _ hi]
  simp
theorem replaceK_cons_eq (c : UInt8) (new l : List UInt8) (k : Nat) : replaceK [c] new (k + 1) (c :: l) = new ++ replaceK [c] new k l := by
 have h2 : index (c :: l) [c] = ((0 : Nat) : Int) := by
  simp only [index]
  rw [if_pos (by simp)]; rfl
 rw [replaceK_hit _ _ _ _ _ h2]
 simp
theorem replaceK_one (c : UInt8) (new : List UInt8) : ∀ s : List UInt8, replaceK [c] new (count s [c]) s = s.flatMap fun x => if x = c then new else [x]
 | [] => by
  have : count ([] : List UInt8) [c] = 0 := by rw [count_one]; rfl
  rw [this]; rfl
 | b :: s => by
  rw [List.flatMap_cons]
  by_cases h : b = c
  ·subst h
   rw [count_cons_eq, Nat.add_comm 1, replaceK_cons_eq, replaceK_one b new s, if_pos rfl]
  rw [count_cons_ne b c s h, replaceK_cons_ne c b new s h _ rfl, replaceK_one c new s, if_neg h]; rfl
theorem replaceAll_one (c : UInt8) (new s : List UInt8) (hn : new ≠ [c]) : replaceAll s [c] new = s.flatMap fun x => if x = c then new else [x] := by
 unfold replaceAll replace
 rw [if_neg (by simpa using fun e => hn e.symm)]
 have : replaceNum s [c] (-1) = count s [c] := by unfold replaceNum; rw [if_pos (.inl (by omega))]
 rw [this, replaceK_one]
def pieceL (c : UInt8) : List UInt8 := if c = 126 then [126, 48] else if c = 47 then [126, 49] else [c]
def pieceB (t : ByteArray) : ByteArray := ⟨(47 :: t.data.toList.flatMap pieceL).toArray⟩
def printB (ts : List ByteArray) : ByteArray := ⟨(ts.flatMap fun t => (pieceB t).data.toList).toArray⟩
theorem piece_two (s : List UInt8) : (s.flatMap fun x => if x = 126 then [126, 48] else [x]).flatMap (fun x => if x = 47 then [126, 49] else [x]) = s.flatMap pieceL := by
 induction s with
 | nil => rfl
 | cons b s ih =>
  rw [List.flatMap_cons, List.flatMap_append, ih, List.flatMap_cons]
  congr 1
  unfold pieceL
  by_cases h : b = 126
  ·subst h; rfl
  rw [if_neg h, if_neg h]
  simp
theorem pieceL_len (c : UInt8) : (pieceL c).length ≤ 2 := by
 unfold pieceL
 split
 ·exact Nat.le_refl _
 split
 ·exact Nat.le_refl _
 exact Nat.le_succ 1
theorem flat_two (s : List UInt8) : (s.flatMap pieceL).length ≤ 2 * s.length := by
 induction s with
 | nil => exact Nat.le_refl _
 | cons b s ih =>
  rw [List.flatMap_cons, List.length_append, List.length_cons]
  have := pieceL_len b
  omega
theorem pieceB_size (t : ByteArray) : (pieceB t).size ≤ 2 * t.size + 1 := by
 have := flat_two t.data.toList
 show (47 :: t.data.toList.flatMap pieceL).toArray.size ≤ 2 * t.data.size + 1
 simp
 simp at this
 omega
end Go.Json
namespace Go.Proofs
open Go.Shelf Go.RowKit
def Tryz.lays169_ren : Go.Shelf.Ren := ⟨fun | 169 => 59 | n => n, fun | 70 => 132 | 9 => 9 | 0 => 0 | 72 => 134 | 37 => 127 | 127 => 195 | 3 => 3 | 5 => 5 | n => n, fun | n => n⟩
theorem Tryz.lays169 : Go.Proofs.Lays.n169 Tryz.prog Tryz.lays169_ren := {
 mixed := by kernel_rfl
 f169 := Tryz.func59.trans (congrArg some (by kernel_rfl))
 t0 := Tryz.underlying0
 a0 := Tryz.isAgg0
 z0 := Tryz.sizeOf0
 v0 := Tryz.zeroValue0
 t3 := Tryz.underlying3
 a3 := Tryz.isAgg3
 z3 := Tryz.sizeOf3
 v3 := Tryz.zeroValue3
 t9 := Tryz.underlying9
 a9 := Tryz.isAgg9
 z9 := Tryz.sizeOf9
 v9 := Tryz.zeroValue9
 t37 := Tryz.underlying127
 a37 := Tryz.isAgg127
 z37 := Tryz.sizeOf127
 v37 := Tryz.zeroValue127
 t70 := Tryz.underlying132
 a70 := Tryz.isAgg132
 z70 := Tryz.sizeOf132
 v70 := Tryz.zeroValue132
 t72 := Tryz.underlying134
 a72 := Tryz.isAgg134
 z72 := Tryz.sizeOf134
 v72 := Tryz.zeroValue134
 t127 := Tryz.underlying195
 a127 := Tryz.isAgg195
 z127 := Tryz.sizeOf195
 v127 := Tryz.zeroValue195 }
theorem Tryz.Builder_Extra_169 : Builder.Extra Tryz.prog Tryz.lays169_ren := {
 sizeBuilder := by kernel_rfl
 liesBuilder := by kernel_rfl
 t5 := Tryz.underlying5
 a5 := Tryz.isAgg5
 z5 := Tryz.sizeOf5
 v5 := Tryz.zeroValue5
 infoByte := by kernel_rfl
 cellsByte := by kernel_rfl
 sizeByte := by kernel_rfl
 neB5 := by decide }
open Go.RowKit in
open Go.RowKit in
open Go.RowKit in
theorem Tryz.Builder_String_any (B b : Nat) (l : List UInt8) (w : World) (h : Lib.IsBuilder 134 5 B b (Lib.byteCells l) w) (hBw : B ≤ w.heap.size) :
  Calls Tryz.prog 59 #[.pointer (some ⟨b, 0, none⟩)] w fun e w' => e = .returned (.string ⟨l.toArray⟩) ∧ Below B w w' := Any.Builder_String_any Tryz.lays169 Tryz.Builder_Extra_169 B b l w h hBw
def Tryz.lays155_ren : Go.Shelf.Ren := ⟨fun | 155 => 99 | 154 => 122 | 138 => 142 | 165 => 143 | 143 => 144 | 166 => 57 | 197 => 145 | 169 => 59 | 195 => 157 | 218 => 158 | 240 => 98 | 241 => 159 | 219 => 160 | 260 => 161 | 276 => 121 | 277 => 164 | 217 => 165 | 225 => 166 | 224 => 167 | 267 => 168 | 266 => 169 | 314 => 170 | n => n, fun | 9 => 9 | 3 => 3 | 4 => 4 | 72 => 134 | 0 => 0 | 76 => 136 | 105 => 255 | 21 => 21 | 5 => 5 | 70 => 132 | 20 => 20 | 37 => 127 | 75 => 35 | 127 => 195 | 164 => 235 | 46 => 198 | 119 => 283 | 139 => 286 | 138 => 285 | 146 => 287 | 51 => 246 | 80 => 125 | n => n, fun | 1 => 1 | 3 => 2 | 4 => 3 | n => n⟩
theorem Tryz.lays155 : Go.Proofs.Lays.n155 Tryz.prog Tryz.lays155_ren := {
 mixed := by kernel_rfl
 f138 := Tryz.func142.trans (congrArg some (by kernel_rfl))
 f143 := Tryz.func144.trans (congrArg some (by kernel_rfl))
 f154 := Tryz.func122.trans (congrArg some (by kernel_rfl))
 f155 := Tryz.func99.trans (congrArg some (by kernel_rfl))
 f165 := Tryz.func143.trans (congrArg some (by kernel_rfl))
 f166 := Tryz.func57.trans (congrArg some (by kernel_rfl))
 f169 := Tryz.func59.trans (congrArg some (by kernel_rfl))
 f195 := Tryz.func157.trans (congrArg some (by kernel_rfl))
 f197 := Tryz.func145.trans (congrArg some (by kernel_rfl))
 f217 := Tryz.func165.trans (congrArg some (by kernel_rfl))
 f218 := Tryz.func158.trans (congrArg some (by kernel_rfl))
 f219 := Tryz.func160.trans (congrArg some (by kernel_rfl))
 f224 := Tryz.func167.trans (congrArg some (by kernel_rfl))
 f225 := Tryz.func166.trans (congrArg some (by kernel_rfl))
 f240 := Tryz.func98.trans (congrArg some (by kernel_rfl))
 f241 := Tryz.func159.trans (congrArg some (by kernel_rfl))
 f260 := Tryz.func161.trans (congrArg some (by kernel_rfl))
 f266 := Tryz.func169.trans (congrArg some (by kernel_rfl))
 f267 := Tryz.func168.trans (congrArg some (by kernel_rfl))
 f276 := Tryz.func121.trans (congrArg some (by kernel_rfl))
 f277 := Tryz.func164.trans (congrArg some (by kernel_rfl))
 f314 := Tryz.func170.trans (congrArg some (by kernel_rfl))
 t0 := Tryz.underlying0
 a0 := Tryz.isAgg0
 z0 := Tryz.sizeOf0
 v0 := Tryz.zeroValue0
 t3 := Tryz.underlying3
 a3 := Tryz.isAgg3
 z3 := Tryz.sizeOf3
 v3 := Tryz.zeroValue3
 t4 := Tryz.underlying4
 a4 := Tryz.isAgg4
 z4 := Tryz.sizeOf4
 v4 := Tryz.zeroValue4
 t5 := Tryz.underlying5
 a5 := Tryz.isAgg5
 z5 := Tryz.sizeOf5
 v5 := Tryz.zeroValue5
 t9 := Tryz.underlying9
 a9 := Tryz.isAgg9
 z9 := Tryz.sizeOf9
 v9 := Tryz.zeroValue9
 t20 := Tryz.underlying20
 a20 := Tryz.isAgg20
 z20 := Tryz.sizeOf20
 v20 := Tryz.zeroValue20
 t21 := Tryz.underlying21
 a21 := Tryz.isAgg21
 z21 := Tryz.sizeOf21
 v21 := Tryz.zeroValue21
 t37 := Tryz.underlying127
 a37 := Tryz.isAgg127
 z37 := Tryz.sizeOf127
 v37 := Tryz.zeroValue127
 t46 := Tryz.underlying198
 a46 := Tryz.isAgg198
 z46 := Tryz.sizeOf198
 v46 := Tryz.zeroValue198
 t51 := Tryz.underlying246
 a51 := Tryz.isAgg246
 z51 := Tryz.sizeOf246
 v51 := Tryz.zeroValue246
 t70 := Tryz.underlying132
 a70 := Tryz.isAgg132
 z70 := Tryz.sizeOf132
 v70 := Tryz.zeroValue132
 t72 := Tryz.underlying134
 a72 := Tryz.isAgg134
 z72 := Tryz.sizeOf134
 v72 := Tryz.zeroValue134
 t75 := Tryz.underlying35
 a75 := Tryz.isAgg35
 z75 := Tryz.sizeOf35
 v75 := Tryz.zeroValue35
 t76 := Tryz.underlying136
 a76 := Tryz.isAgg136
 z76 := Tryz.sizeOf136
 v76 := Tryz.zeroValue136
 t105 := Tryz.underlying255
 a105 := Tryz.isAgg255
 z105 := Tryz.sizeOf255
 v105 := Tryz.zeroValue255
 t119 := Tryz.underlying283
 a119 := Tryz.isAgg283
 z119 := Tryz.sizeOf283
 t127 := Tryz.underlying195
 a127 := Tryz.isAgg195
 z127 := Tryz.sizeOf195
 v127 := Tryz.zeroValue195
 t138 := Tryz.underlying285
 a138 := Tryz.isAgg285
 z138 := Tryz.sizeOf285
 v138 := Tryz.zeroValue285
 t139 := Tryz.underlying286
 a139 := Tryz.isAgg286
 z139 := Tryz.sizeOf286
 v139 := Tryz.zeroValue286
 t146 := Tryz.underlying287
 a146 := Tryz.isAgg287
 z146 := Tryz.sizeOf287
 v146 := Tryz.zeroValue287
 t164 := Tryz.underlying235
 a164 := Tryz.isAgg235
 z164 := Tryz.sizeOf235
 v164 := Tryz.zeroValue235
 g1 := by kernel_rfl
 g3 := by kernel_rfl
 g4 := by kernel_rfl }
theorem Tryz.Builder_Extra_155 : Builder.Extra Tryz.prog Tryz.lays155_ren := {
 sizeBuilder := by kernel_rfl
 liesBuilder := by kernel_rfl
 t5 := Tryz.underlying5
 a5 := Tryz.isAgg5
 z5 := Tryz.sizeOf5
 v5 := Tryz.zeroValue5
 infoByte := by kernel_rfl
 cellsByte := by kernel_rfl
 sizeByte := by kernel_rfl
 neB5 := by decide }
open Go.RowKit Go.Lib in
theorem Tryz.strings_ReplaceAll (s old new : ByteArray) (m : Int) (w : World) (hs : s.size < 4294967281) (hm : w.cell? ⟨1, 0, none⟩ = some (.int .i64 m)) (h1 : 1 ≤ old.size) (hlen : s.size + Lib.countB s old * new.size ≤ 140737488355328) :
  Calls Tryz.prog 99 #[.string s, .string old, .string new] w fun e w' =>
   e = .returned (.string ⟨(Lib.replaceAll s.data.toList old.data.toList new.data.toList).toArray⟩) ∧ Below w.heap.size w w' := Any.strings_ReplaceAll Tryz.lays155 Tryz.Builder_Extra_155 s old new m w hs hm h1 hlen
theorem Tryz.Builder_WriteString (B b : Nat) (bs : List Value) (s : ByteArray) (w : World) (h : Lib.IsBuilder 134 5 B b bs w) (hlen : bs.length + s.size ≤ 140737488355328) (hBw : B ≤ w.heap.size) :
  Calls Tryz.prog 57 #[.pointer (some ⟨b, 0, none⟩), .string s] w fun e w' => e = .returned (.tuple #[.int .i64 s.size, .nilIface]) ∧ (Lib.BuilderAt 134 5 B b (.pointer (some ⟨b, 0, none⟩)) (bs ++ Lib.strCells s) w' ∧ Below B w w') := Any.Builder_WriteString { Tryz.lays155 with } Tryz.Builder_Extra_155 B b bs s w h hlen hBw
end Go.Proofs
namespace Go.Aff
open Go Go.RowKit
theorem Below.keeps {B : Nat} {w w' : World} (h : Below B w w') : Keeps (fun i => B ≤ i) w w' := ⟨h.os, h.tape, h.output, h.size, fun i _ hi => h.block i (by omega)⟩
theorem Below.keeps0 {w w' : World} (h : Below w.heap.size w w') : Keeps (fun _ => False) w w' := ⟨h.os, h.tape, h.output, h.size, fun i hi _ => h.block i hi⟩
theorem builderAt_keep {T e : TypeId} {B b : Nat} {p : Value} {bs : List Value} {w w' : World} (h : Lib.BuilderAt T e B b p bs w) (k : Keeps (fun _ => False) w w') : Lib.BuilderAt T e B b p bs w' := by
 obtain ⟨h1, v, h2, h3, h4⟩ := h
 exact ⟨h1, v, by rw [k.block b (Array.getElem?_eq_some_iff.1 h2).1 (fun h => h)]; exact h2, k.own h3 (fun _ _ h => h), h4⟩
theorem isBuilder_keep {T e : TypeId} {B b : Nat} {bs : List Value} {w w' : World} (h : Lib.IsBuilder T e B b bs w) (k : Keeps (fun _ => False) w w') : Lib.IsBuilder T e B b bs w' := h.imp (fun h => builderAt_keep h k) (fun h => builderAt_keep h k)
theorem builder_new (w : World) (T e : TypeId) : Lib.IsBuilder T e w.heap.size w.heap.size [] (w.alloc (.cells #[.pointer none, .slice none 0 0] T)) :=
 .inl ⟨Nat.le_refl _, .slice none 0 0, Blk.new w T [.pointer none, .slice none 0 0], ⟨rfl, .inl ⟨rfl, rfl⟩⟩, by simp [Value.ownBlock]⟩
theorem byteCells_app (a b : List UInt8) : Lib.byteCells (a ++ b) = Lib.byteCells a ++ Lib.byteCells b := List.map_append
end Go.Aff
namespace Go.Proofs.YtdmcioghdindfaaGreatDoor
open Go Go.RowKit Go.Aff Go.Json
attribute [local go_sem] Oper.semAt_some
def MaxAt (w : World) : Prop := ∃ m : Int, w.cell? ⟨1, 0, none⟩ = some (.int .i64 m)
theorem MaxAt.stay {w w' : World} (h : MaxAt w) (k : Keeps (fun _ => False) w w') : MaxAt w' := h.imp fun _ h => cell_keep k h
theorem replace_one (c : UInt8) (d : List UInt8) (s : ByteArray) (w : World) (hm : MaxAt w) (hs : s.size ≤ 1099511627) (hd : d.length = 2) (hne : d ≠ [c]) :
  Calls Tryz.prog 99 #[.string s, .string ⟨#[c]⟩, .string ⟨d.toArray⟩] w fun e w' => e = .returned (.string ⟨(s.data.toList.flatMap fun x => if x = c then d else [x]).toArray⟩) ∧ Keeps (fun _ => False) w w' := by
 obtain ⟨m, hm⟩ := hm
 have hc := Lib.countB_mul_le ⟨#[c]⟩ (show 1 ≤ 1 from Nat.le_refl _) s.size s (Nat.le_refl _)
 have hc1 : (⟨#[c]⟩ : ByteArray).size = 1 := rfl
 have hd2 : (⟨d.toArray⟩ : ByteArray).size = 2 := by show d.toArray.size = 2; simpa using hd
 refine (Tryz.strings_ReplaceAll s ⟨#[c]⟩ ⟨d.toArray⟩ m w (by omega) hm (by rw [hc1]; exact Nat.le_refl _) (by rw [hd2]; rw [hc1] at hc; omega)).mono ?_
 rintro e w' ⟨rfl, hb⟩
 refine ⟨?_, Below.keeps0 hb⟩
 have := replaceAll_one c d s.data.toList hne
 show Ending.returned (.string ⟨(Lib.replaceAll s.data.toList [c] d.toArray.toList).toArray⟩) = _
 rw [show d.toArray.toList = d from by simp, this]
theorem quote_size (l : List UInt8) (c : UInt8) (d : List UInt8) (hd : d.length = 2) : (l.flatMap fun x => if x = c then d else [x]).length ≤ 2 * l.length := by
 induction l with
 | nil => exact Nat.le_refl _
 | cons b l ih =>
  rw [List.flatMap_cons, List.length_append, List.length_cons]
  by_cases h : b = c
  ·rw [if_pos h, hd]; omega
  rw [if_neg h]; simp only [List.length_singleton]; omega
theorem quoted_any (w : World) (t : ByteArray) (hm : MaxAt w) (ht : t.size ≤ 2097152) : Calls Tryz.prog 58 #[.string t] w fun e w' => e = .returned (.string (pieceB t)) ∧ Keeps (fun _ => False) w w' := by
 obtain ⟨t1, h1⟩ : ∃ t1 : ByteArray, t1 = ⟨(t.data.toList.flatMap fun x => if x = 126 then [126, 48] else [x]).toArray⟩ := ⟨_, rfl⟩
 obtain ⟨t2, h2⟩ : ∃ t2 : ByteArray, t2 = ⟨(t1.data.toList.flatMap fun x => if x = 47 then [126, 49] else [x]).toArray⟩ := ⟨_, rfl⟩
 have hs1 : t1.size ≤ 2 * t.size := by
  have := quote_size t.data.toList 126 [126, 48] rfl
  rw [h1]
  show (List.toArray _).size ≤ 2 * t.data.size
  simpa using this
 have hs2 : t2.size ≤ 2 * t1.size := by
  have := quote_size t1.data.toList 47 [126, 49] rfl
  rw [h2]
  show (List.toArray _).size ≤ 2 * t1.data.size
  simpa using this
 have hfin : (⟨#[47]⟩ : ByteArray) ++ t2 = pieceB t := by
  have e1 : t2.data = (t.data.toList.flatMap pieceL).toArray := by
   rw [h2]
   show (List.toArray _) = _
   rw [h1]
   show (List.flatMap _ (t.data.toList.flatMap fun x => if x = 126 then [126, 48] else [x]).toArray.toList).toArray = _
   rw [show (t.data.toList.flatMap fun x => if x = 126 then [126, 48] else [x]).toArray.toList = t.data.toList.flatMap fun x => if x = 126 then [126, 48] else [x] from by simp, piece_two]
  refine ByteArray.ext ?_
  rw [ByteArray.data_append, e1]
  show #[47] ++ (t.data.toList.flatMap pieceL).toArray = (47 :: t.data.toList.flatMap pieceL).toArray
  simp
 have HR1 := H_ (replace_one 126 [126, 48] t w hm (by omega) rfl (by decide))
 have HR2 : Hid (∀ W, Keeps (fun _ => False) w W → Calls Tryz.prog 99 #[.string t1, .string ⟨#[47]⟩, .string ⟨#[126, 49]⟩] W fun e w' => e = .returned (.string t2) ∧ Keeps (fun _ => False) w w') := H_ fun W hW => (replace_one 47 [126, 49] t1 W (hm.stay hW) (by omega) rfl (by decide)).mono fun e w' h => ⟨by rw [h.1, h2], hW.trans h.2 fun _ _ h => h⟩
 rw [← h1] at HR1
 have HF := H_ hfin
 have ha := run_string_add_sum (P := Tryz.prog) (w := w) ⟨#[47]⟩ t2 (by show 1 + t2.size ≤ _; omega)
 have hsz : ¬ (9223372036854775807 < (⟨#[47]⟩ : ByteArray).size + t2.size) := by show ¬ (9223372036854775807 < 1 + t2.size); omega
 clear h1 h2 hs1 hs2 hfin ha
 have tk : True := trivial
 go_enter Tryz.func58, Tryz.ntmps58
 go_wp2_with (first
  | (go_at_call 99; have _t := tk; clear tk; refine HR1.out.mono ?_; rintro e w1 ⟨rfl, hk1⟩; have HK1 := H_ hk1; clear hk1)
  | (go_at_call 99; refine (HR2.out _ HK1.out).mono ?_; rintro e w2 ⟨rfl, hk2⟩; have HK2 := H_ hk2; clear hk2))
 go_ret
 exact ⟨by rw [← HF.out]; rfl, HK2.out⟩
theorem textAtQ {w : World} {A : Option Addr} {n : Nat} {ks : List ByteArray} (h : Rd w A n (ks.map .string)) {j : Nat} (hj : j < n) : ∃ g o s, A = some ⟨g, o, none⟩ ∧ ks[j]? = some s ∧ w.cell? ⟨g, o + j, none⟩ = some (.string s) := by
 obtain ⟨g, o, e, q⟩ := h.2 (by omega)
 have hl : ks.length = n := by simpa using h.1
 obtain ⟨s, hs⟩ : ∃ s, ks[j]? = some s := ⟨_, List.getElem?_eq_getElem (by omega)⟩
 refine ⟨g, o, s, e, hs, ?_⟩
 rw [q j hj, List.getElem?_map, hs]; rfl
def pre (ts : List ByteArray) (i : Nat) : List UInt8 := (ts.take i).flatMap fun t => (pieceB t).data.toList
theorem pre_next {ts : List ByteArray} {i : Nat} {t : ByteArray} (h : ts[i]? = some t) : pre ts (i + 1) = pre ts i ++ (pieceB t).data.toList := by
 unfold pre
 rw [List.take_add_one, h, List.flatMap_append]; simp
theorem print_any (w : World) (A : Option Addr) (n c : Nat) (ts : List ByteArray) (hts : ts.length = n) (hr : Rd w A n (ts.map .string)) (hm : MaxAt w) (hb : ∀ t ∈ ts, rightS t = true ∧ t.size ≤ 2097152) (hn : n ≤ 65536) :
  Calls Tryz.prog 30 #[.slice A n c] w fun e w' => e = .returned (.tuple #[.string (printB ts), .nilIface]) ∧ Keeps (fun _ => False) w w' := by
 have HR := H_ (And.intro hr hts)
 have HB := H_ hb
 have HM := H_ hm
 have hgt : decide ((65536 : Int) < (n : Int)) = false := by simpa using (by omega : ¬ (65536 : Int) < (n : Int))
 have HNW := H_ (builder_new w 134 5)
 have HK0 : Hid (Keeps (fun _ => False) w (w.alloc (.cells #[.pointer none, .slice none 0 0] 134))) := H_ ((Keeps.refl _ w).alloc _)
 have HN : Hid (n ≤ 65536) := H_ hn
 clear hr hts hb hm hn
 go_enter Tryz.func30, Tryz.ntmps30
 go_upto_region 4 with fail
 obtain ⟨b, hbq⟩ : ∃ b, b = w.heap.size := ⟨_, rfl⟩
 rw [← hbq] at HNW ⊢
 refine gen_codeF (fun W => Lib.IsBuilder 134 5 b b [] W ∧ Keeps (fun _ => False) w W) ⟨HNW.out, HK0.out⟩ ?_
 rintro w1 ⟨hb1, hk1⟩
 have H1 := H_ (And.intro hb1 (And.intro hk1 hbq))
 clear hb1 hk1 hbq HNW HK0
 go_upto_block 0 with fail
 go_wp2
 go_loopg [13] n (fun gk t' wx => ∃ (i : Nat), i ≤ n ∧ t' = .int .i64 i ∧ gk = n - i ∧ Hid (Lib.IsBuilder 134 5 b b (Lib.byteCells (pre ts i)) wx ∧ Keeps (fun _ => False) w wx ∧ (pre ts i).length ≤ i * 4194305))
 case atStart => exact ⟨0, by omega, rfl, rfl, H_ ⟨H1.out.1, H1.out.2.1, by simp [pre]⟩⟩
 case round =>
  obtain ⟨i, hin, rfl, hgk, HO⟩ := hrel
  have HGK := H_ hgk
  clear hgk
  by_cases hlt : i < n
  ·obtain ⟨g, o, t, hA, hti, hck⟩ := textAtQ (HR.out.1.keep HO.out.2.1 (fun _ _ _ h => h)) hlt
   subst hA
   have htb := HB.out t (List.mem_of_getElem? hti)
   have HPX := H_ (pre_next hti)
   have HRT : Hid (Calls Tryz.prog 56 #[.string t] wr fun e w' => e = .returned (.bool true) ∧ Keeps (fun _ => False) wr w') := H_ ((right_any wr t (Nat.le_trans htb.2 (by decide))).mono fun e w' h => ⟨by rw [h.1, htb.1], h.2⟩)
   have HQU : Hid (∀ W, Keeps (fun _ => False) wr W → Calls Tryz.prog 58 #[.string t] W fun e w' => e = .returned (.string (pieceB t)) ∧ Keeps (fun _ => False) wr w') := H_ fun W hW => (quoted_any W t ((HM.out.stay HO.out.2.1).stay hW) htb.2).mono fun e w' h => ⟨h.1, hW.trans h.2 fun _ _ h => h⟩
   have hps := pieceB_size t
   obtain ⟨z, hz⟩ : ∃ z, z = pieceB t := ⟨_, rfl⟩
   rw [← hz] at HQU HPX hps
   have hzl : z.size ≤ 4194305 := by omega
   have hzd : z.data.toList.length = z.size := by simp
   have HWS : Hid (∀ W, Keeps (fun _ => False) wr W → Calls Tryz.prog 57 #[.pointer (some ⟨b, 0, none⟩), .string z] W fun e w' => e = .returned (.tuple #[.int .i64 z.size, .nilIface]) ∧ Hid (Lib.IsBuilder 134 5 b b (Lib.byteCells (pre ts (i + 1))) w' ∧ Keeps (fun _ => False) w w' ∧ (pre ts (i + 1)).length ≤ (i + 1) * 4194305)) := H_ fun W hW => by
    have hbl : b ≤ W.heap.size := by
     have := H1.out.2.2
     have := (HO.out.2.1.trans hW fun _ _ h => h).size
     omega
    refine (Tryz.Builder_WriteString b b (Lib.byteCells (pre ts i)) z W (isBuilder_keep HO.out.1 hW) (by rw [Lib.byteCells_length]; have := HO.out.2.2; have := HN.out; omega) hbl).mono ?_
    rintro e w' ⟨he, hb, hw⟩
    refine ⟨he, H_ ⟨?_, ?_, ?_⟩⟩
    ·rw [HPX.out, byteCells_app]; exact .inr hb
    ·refine (HO.out.2.1.trans hW fun _ _ h => h).trans (Below.keeps hw) fun i hi e => ?_
     have := H1.out.2.2
     have e' : b ≤ i := e
     omega
    rw [HPX.out, List.length_append, hzd]
    have := HO.out.2.2
    omega
   have hi63 : (0 : Int) ≤ (i : Int) := by omega
   have hiN : (i : Int) < (n : Int) := by omega
   have hn65 : (n : Int) ≤ 65536 := by have := HN.out; omega
   have HCK := H_ hck
   clear hti htb hps hz hzl hzd
   go_wp2_with (first
    | (go_at_call 56; refine HRT.out.mono ?_; rintro e w5 ⟨rfl, hk5⟩; have HK5 := H_ hk5; clear hk5)
    | (go_at_call 58; refine (HQU.out _ HK5.out).mono ?_; rintro e w6 ⟨rfl, hk6⟩; have HK6 := H_ hk6; clear hk6)
    | (go_at_call 57; refine (HWS.out _ HK6.out).mono ?_; rintro e w7 ⟨rfl, HO7⟩))
   go_roundg (n - (i + 1))
   case measure => rw [HGK.out]; omega
   case rel => exact ⟨i + 1, by omega, by go_num, rfl, HO7⟩
  obtain rfl : i = n := by omega
  have HST : Hid (Calls Tryz.prog 59 #[.pointer (some ⟨b, 0, none⟩)] wr fun e w' => e = .returned (.string (printB ts)) ∧ Keeps (fun _ => False) w w') := H_ (by
   have hbl : b ≤ wr.heap.size := by have := H1.out.2.2; have := HO.out.2.1.size; omega
   refine (Tryz.Builder_String_any b b (pre ts i) wr HO.out.1 hbl).mono ?_
   rintro e w' ⟨he, hw⟩
   refine ⟨?_, HO.out.2.1.trans (Below.keeps hw) fun i hi e => ?_⟩
   ·rw [he]
    unfold pre printB
    rw [List.take_of_length_le (by rw [HR.out.2]; exact Nat.le_refl _)]
   have := H1.out.2.2
   have e' : b ≤ i := e
   omega)
  go_wp2_with (go_at_call 59; refine HST.out.mono ?_; rintro e w5 ⟨rfl, hk5⟩; have HK5 := H_ hk5; clear hk5)
  go_ret2
  exact ⟨rfl, HK5.out⟩
end Go.Proofs.YtdmcioghdindfaaGreatDoor
